/- The draws of the counts. -/
import Derived.Test.YtenmgiocbdabdaaD1
namespace Go.Proofs.Ytenmgiocbdabdaa
open Go.RowKit
set_option linter.unusedVariables false

theorem below_pick {B r : Nat} {w w1 w2 : World} (h : Below B w w1) (hB : B ≤ r) (hz : B ≤ w1.heap.size) (hg : w1.grownBy w2 (some r)) : Below B w w2 :=
  h.grown hg hz (fun k hk => by injection hk with hk; omega)

/-- one number in a range -/
def NumR (w : World) (lo hi : Int) (e : Ending) (w' : World) : Prop := ∃ z : Int, e = .returned (.int .i64 z) ∧ lo ≤ z ∧ z ≤ hi ∧ Below w.heap.size w w'
/-- two numbers in ranges -/
def NumR2 (w : World) (lo hi lo2 hi2 : Int) (e : Ending) (w' : World) : Prop := ∃ z y : Int, e = .returned (.tuple #[.int .i64 z, .int .i64 y]) ∧ lo ≤ z ∧ z ≤ hi ∧ lo2 ≤ y ∧ y ≤ hi2 ∧ Below w.heap.size w w'

theorem DrawSettledMaps_c (a : Option Addr) (len cap : Nat) (zs : List Int) (w : World) (h : RowIn .u8 w a len cap zs) (hn : len ≤ 1048576) :
    Calls Try.prog 60 #[.slice a len cap] w (NumR w 0 8) := by
  have ho := open_c a len cap zs w h hn
  clear h
  go_enter Try.func60, Try.ntmps60
  go_wp2_with fail
  refine ho.mono ?_
  rintro e w1 ⟨r, rfl, hr, hb, hr0, hr1⟩
  go_wp2_with fail
  refine (pick_c r 0 9 w1 hr (by omega) (by omega) (by omega)).mono ?_
  rintro e w2 ⟨z, rfl, hz0, hz1, hr2, hg, hsz⟩
  have HZ := hid hsz
  clear hsz
  go_wp2_with fail
  go_ret
  exact ⟨z, rfl, hz0, by omega, below_pick hb hr0 hb.size hg⟩

theorem DrawOneLotOf_c (a : Option Addr) (len cap : Nat) (zs : List Int) (w : World) (h : RowIn .u8 w a len cap zs) (hn : len ≤ 1048576) :
    Calls Try.prog 68 #[.slice a len cap] w (NumR w 0 8) := by
  have ho := open_c a len cap zs w h hn
  clear h
  go_enter Try.func68, Try.ntmps68
  go_wp2_with fail
  refine ho.mono ?_
  rintro e w1 ⟨r, rfl, hr, hb, hr0, hr1⟩
  go_wp2_with fail
  refine (pick_c r 0 9 w1 hr (by omega) (by omega) (by omega)).mono ?_
  rintro e w2 ⟨z, rfl, hz0, hz1, hr2, hg, hsz⟩
  have HZ := hid hsz
  clear hsz
  go_wp2_with fail
  go_ret
  exact ⟨z, rfl, hz0, by omega, below_pick hb hr0 hb.size hg⟩

theorem DrawOnLoopsOf_c (a : Option Addr) (len cap : Nat) (zs : List Int) (w : World) (h : RowIn .u8 w a len cap zs) (hn : len ≤ 1048576) :
    Calls Try.prog 55 #[.slice a len cap] w (NumR2 w 0 8 0 8) := by
  have ho := open_c a len cap zs w h hn
  clear h
  go_enter Try.func55, Try.ntmps55
  go_wp2_with fail
  refine ho.mono ?_
  rintro e w1 ⟨r, rfl, hr, hb, hr0, hr1⟩
  go_wp2_with fail
  refine (pick_c r 0 9 w1 hr (by omega) (by omega) (by omega)).mono ?_
  rintro e w2 ⟨z, rfl, hz0, hz1, hr2, hg, hsz⟩
  have HZ := hid hsz
  clear hsz
  go_wp2_with fail
  refine (pick_c r 1 9 w2 hr2 (by omega) (by omega) (by omega)).mono ?_
  rintro e w3 ⟨y, rfl, hy0, hy1, hr3, hg3, hsz3⟩
  have HZ3 := hid hsz3
  clear hsz3
  go_wp2_with fail
  go_ret2
  have b2 := below_pick hb hr0 hb.size hg
  exact ⟨z, y, rfl, hz0, by omega, hy0, by omega, below_pick b2 hr0 b2.size hg3⟩

theorem DrawImagesOf_c (a : Option Addr) (len cap : Nat) (zs : List Int) (w : World) (h : RowIn .u8 w a len cap zs) (hn : len ≤ 1048576) :
    Calls Try.prog 64 #[.slice a len cap] w (NumR2 w 0 8 0 8) := by
  have ho := DrawOnLoopsOf_c a len cap zs w h hn
  clear h
  go_enter Try.func64, Try.ntmps64
  go_wp2_with fail
  refine ho.mono ?_
  rintro e w1 ⟨z, y, rfl, h1, h2, h3, h4, hb⟩
  go_wp2_with fail
  go_ret2
  exact ⟨z, y, rfl, h1, h2, h3, h4, hb⟩


end Go.Proofs.Ytenmgiocbdabdaa
