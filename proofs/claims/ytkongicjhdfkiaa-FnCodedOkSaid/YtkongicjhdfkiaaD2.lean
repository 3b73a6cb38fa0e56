/- The draws of the counts. -/
import Derived.Test.YtkongicjhdfkiaaD1
namespace Go.Proofs.Ytkongicjhdfkiaa
open Go.RowKit
set_option linter.unusedVariables false

theorem below_pick {B r : Nat} {w w1 w2 : World} (h : Below B w w1) (hB : B ≤ r) (hz : B ≤ w1.heap.size) (hg : w1.grownBy w2 (some r)) : Below B w w2 :=
  h.grown hg hz (fun k hk => by injection hk with hk; omega)

/-- one number in a range -/
def NumR (w : World) (lo hi : Int) (e : Ending) (w' : World) : Prop := ∃ z : Int, e = .returned (.int .i64 z) ∧ lo ≤ z ∧ z ≤ hi ∧ Below w.heap.size w w'
/-- two numbers in ranges -/
def NumR2 (w : World) (lo hi lo2 hi2 : Int) (e : Ending) (w' : World) : Prop := ∃ z y : Int, e = .returned (.tuple #[.int .i64 z, .int .i64 y]) ∧ lo ≤ z ∧ z ≤ hi ∧ lo2 ≤ y ∧ y ≤ hi2 ∧ Below w.heap.size w w'

theorem DrawMapsOf_c (a : Option Addr) (len cap : Nat) (zs : List Int) (w : World) (h : RowIn .u8 w a len cap zs) (hn : len ≤ 1048576) :
    Calls Try.prog 43 #[.slice a len cap] w (NumR w 0 8) := by
  have ho := open_c a len cap zs w h hn
  clear h
  go_enter Try.func43, Try.ntmps43
  go_wp2_with fail
  refine ho.mono ?_
  rintro e w1 ⟨r, rfl, hr, hb, hr0, hr1⟩
  go_wp2_with fail
  refine (pick_c r 0 9 w1 hr (by omega) (by omega) (by omega)).mono ?_
  rintro e w2 ⟨z, rfl, hz0, hz1, hr2, hg, hsz⟩
  have HZ := hid hsz
  clear hsz
  go_wp2_with fail
  go_ret
  exact ⟨z, rfl, hz0, by omega, below_pick hb hr0 hb.size hg⟩

theorem DrawTreesOf_c (a : Option Addr) (len cap : Nat) (zs : List Int) (w : World) (h : RowIn .u8 w a len cap zs) (hn : len ≤ 1048576) :
    Calls Try.prog 42 #[.slice a len cap] w (NumR w 0 8) := by
  have ho := open_c a len cap zs w h hn
  clear h
  go_enter Try.func42, Try.ntmps42
  go_wp2_with fail
  refine ho.mono ?_
  rintro e w1 ⟨r, rfl, hr, hb, hr0, hr1⟩
  go_wp2_with fail
  refine (pick_c r 0 9 w1 hr (by omega) (by omega) (by omega)).mono ?_
  rintro e w2 ⟨z, rfl, hz0, hz1, hr2, hg, hsz⟩
  have HZ := hid hsz
  clear hsz
  go_wp2_with fail
  go_ret
  exact ⟨z, rfl, hz0, by omega, below_pick hb hr0 hb.size hg⟩

theorem DrawChosenOf_c (a : Option Addr) (len cap : Nat) (zs : List Int) (w : World) (h : RowIn .u8 w a len cap zs) (hn : len ≤ 1048576) :
    Calls Try.prog 38 #[.slice a len cap] w (NumR2 w (-1) 8 0 8) := by
  have ho := open_c a len cap zs w h hn
  clear h
  go_enter Try.func38, Try.ntmps38
  go_wp2_with fail
  refine ho.mono ?_
  rintro e w1 ⟨r, rfl, hr, hb, hr0, hr1⟩
  go_wp2_with fail
  refine (pick_c r 0 9 w1 hr (by omega) (by omega) (by omega)).mono ?_
  rintro e w2 ⟨z, rfl, hz0, hz1, hr2, hg, hsz⟩
  have HZ := hid hsz
  clear hsz
  go_wp2_with fail
  refine (pick_c r 1 20 w2 hr2 (by omega) (by omega) (by omega)).mono ?_
  rintro e w3 ⟨y, rfl, hy0, hy1, hr3, hg3, hsz3⟩
  have HZ3 := hid hsz3
  clear hsz3
  go_wp2_with fail
  refine (pick_c r 2 9 w3 hr3 (by omega) (by omega) (by omega)).mono ?_
  rintro e w4 ⟨x, rfl, hx0, hx1, hr4, hg4, hsz4⟩
  have HZ4 := hid hsz4
  clear hsz4
  go_wp2_with fail
  go_ret2
  have b2 := below_pick hb hr0 hb.size hg
  have b3 := below_pick b2 hr0 b2.size hg3
  exact ⟨_, x, rfl, by omega, by omega, hx0, by omega, below_pick b3 hr0 b3.size hg4⟩

theorem DrawPartsOf_c (a : Option Addr) (len cap : Nat) (zs : List Int) (w : World) (h : RowIn .u8 w a len cap zs) (hn : len ≤ 1048576) :
    Calls Try.prog 41 #[.slice a len cap] w (NumR2 w (-1) 8 0 8) := by
  have ho := DrawChosenOf_c a len cap zs w h hn
  clear h
  go_enter Try.func41, Try.ntmps41
  go_wp2_with fail
  refine ho.mono ?_
  rintro e w1 ⟨z, y, rfl, h1, h2, h3, h4, hb⟩
  go_wp2_with fail
  go_ret2
  exact ⟨z, y, rfl, h1, h2, h3, h4, hb⟩


end Go.Proofs.Ytkongicjhdfkiaa
