/- The reader kept over steps; codes that are drawn. -/
import Derived.Test.YtkongicjhdfkiaaD2
namespace Go.Proofs.Ytkongicjhdfkiaa
open Go.RowKit
set_option linter.unusedVariables false

theorem cell_one1 (w : World) (v : Value) (t : TypeId) : (w.alloc (.cells #[v] t)).cell? ⟨w.heap.size, 0, none⟩ = some v := by
  rw [World.cell?_alloc_at _ _ _ _ rfl]; rfl
theorem Rdr.kept {w w' : World} {r m : Nat} (h : Rdr w r m) (hk : ∀ k, k ≤ r → w'.heap[k]? = w.heap[k]?) : Rdr w' r m := by
  obtain ⟨A, n, c, p, hb, hp, hn, hu⟩ := h
  refine ⟨A, n, c, p, (hk r (Nat.le_refl _)).trans hb, hp, hn, fun k hkn => ?_⟩
  obtain ⟨ad, x, e, hlt, hc, hx⟩ := hu k hkn
  exact ⟨ad, x, e, hlt, (World.cell?_of_block (hk _ (by rw [block_of_add]; omega))).trans hc, hx⟩
theorem Rdr.below {B : Nat} {w w' : World} {r m : Nat} (h : Rdr w r m) (hb : Below B w w') (hr : r < B) : Rdr w' r m := h.kept fun k hk => hb.block k (by omega)
theorem Rdr.lt {w : World} {r m : Nat} (h : Rdr w r m) : r < w.heap.size := by
  obtain ⟨A, n, c, p, hb, _⟩ := h
  exact lt_of_block hb
theorem Own.pick {B r : Nat} {w w' : World} {v : Value} {xs : List Int} (h : Own B w v xs) (hr : r < B) (hg : w.grownBy w' (some r)) : Own B w' v xs := by
  rcases hv : v.ownBlock with _ | g
  · exact h.kept hg (.inl hv)
  · refine h.kept hg (.inr ?_)
    rw [hv]
    intro e
    injection e with e
    have := (h.lt g hv).1
    omega
/-- only the reader at r has turned of what was there -/
theorem grown_step {w w1 w2 : World} {r B : Nat} (h : w.grownBy w1 (some r)) (hb : Below B w1 w2) (hB : w.heap.size ≤ B) : w.grownBy w2 (some r) :=
  ⟨hb.os.trans h.os, hb.tape.trans h.tape, hb.output.trans h.output, Nat.le_trans h.size hb.size, fun k hk hne => (hb.block k (by omega)).trans (h.block k hk hne)⟩
theorem grown_pick {w w1 w2 : World} {r : Nat} (h : w.grownBy w1 (some r)) (hg : w1.grownBy w2 (some r)) : w.grownBy w2 (some r) := h.trans hg

/-- a new slice of at most n numbers; the reader goes on by at most d -/
def DrawnR (w : World) (r m d n : Nat) (e : Ending) (w' : World) : Prop :=
  ∃ (xs : List Int) (A : Option Addr) (c : Nat), xs.length ≤ n ∧ e = .returned (.slice A xs.length c) ∧ Own w.heap.size w' (.slice A xs.length c) xs ∧ Rdr w' r (m + d) ∧ w.grownBy w' (some r)
theorem drawn_app {w w' : World} {r m d n : Nat} {xs : List Int} {z : Int} {A : Option Addr} {c : Nat} (hx : xs.length + 1 ≤ n) (ho : Own w.heap.size w' (.slice A (xs.length + 1) c) (xs ++ [z])) (hr : Rdr w' r (m + d)) (hg : w.grownBy w' (some r)) :
    DrawnR w r m d n (.returned (.slice A (xs.length + 1) c)) w' := by
  have e : (xs ++ [z]).length = xs.length + 1 := by simp
  exact ⟨xs ++ [z], A, c, by omega, by rw [e], by rw [e]; exact ho, hr, hg⟩
/-- a new slice of at most n numbers -/
def DrawR (w : World) (n : Nat) (e : Ending) (w' : World) : Prop :=
  ∃ (xs : List Int) (A : Option Addr) (c : Nat), xs.length ≤ n ∧ e = .returned (.slice A xs.length c) ∧ Own w.heap.size w' (.slice A xs.length c) xs ∧ Below w.heap.size w w'

theorem cell_two (w : World) (x y : Int) : (w.alloc (.cells #[.int .i64 x, .int .i64 y] 3)).cell? ⟨w.heap.size, 0, none⟩ = some (.int .i64 x) ∧ (w.alloc (.cells #[.int .i64 x, .int .i64 y] 3)).cell? ⟨w.heap.size, 1, none⟩ = some (.int .i64 y) :=
  ⟨by rw [World.cell?_alloc_at _ _ _ _ rfl]; rfl, by rw [World.cell?_alloc_at _ _ _ _ rfl]; rfl⟩

set_option maxHeartbeats 1000000 in
theorem l20Code_c (r m : Nat) (n : Int) (w : World) (hr : Rdr w r m) (hm : m ≤ 1000) (h1 : 0 ≤ n) (h2 : n ≤ 1000) :
    Calls Try.prog 60 #[.pointer (some ⟨r, 0, none⟩), .int .i64 n] w (DrawnR w r m 20 8) := by
  have hrl := hr.lt
  have hp := fun W hW => pick_c r m 7 W hW (by omega) (by omega) (by omega)
  have HP := hid hp
  clear hp
  go_enter Try.func60, Try.ntmps60
  go_wp2_with fail
  have o0 := Own.new_ w [] #[] rfl (by decide)
  have b0 : Below w.heap.size w (w.alloc (.cells #[] 3)) := (Below.refl _ _).alloc (Nat.le_refl _) _
  refine (HP.out _ (hr.below b0 hrl)).mono ?_
  rintro e w1 ⟨L, rfl, hL0, hL7, hr1, hg1, hz1⟩
  have g1 := grown_pick (grown_of_below b0 (some r)) hg1
  have o1 := o0.pick hrl hg1
  obtain ⟨N, rfl⟩ := Int.eq_ofNat_of_zero_le hL0
  clear hz1 o0 b0 hg1 hr
  go_wp2_with fail
  go_loopw [5, 7] (fun v i wr => ∃ (k : Nat) (xs : List Int), k ≤ N ∧ xs.length = k ∧ i = .int .i64 k ∧ Own w.heap.size wr v xs ∧ Rdr wr r (m + 1 + k) ∧ w.grownBy wr (some r)) (fun _ i _ => N - (intOf i).toNat)
  case atStart => exact ⟨0, [], Nat.zero_le _, rfl, rfl, o1, hr1, g1⟩
  case round =>
    clear o1 hr1 g1
    obtain ⟨k, xs, hk, hxl, rfl, ho, hr1, g1⟩ := hrel
    have HXL := hid hxl
    have hx6 : xs.length ≤ 6 := by omega
    clear hxl
    by_cases hlt : k < N
    · go_wp2_with fail
      refine (pick_c r (m + 1 + k) ((N : Int) + 1) wr hr1 (by omega) (by omega) (by omega)).mono ?_
      rintro e w2 ⟨z, rfl, hz0, hz1, hr2, hg2, hz2⟩
      have g2 := grown_pick g1 hg2
      have o2 := ho.pick hrl hg2
      have hsz : w.heap.size ≤ w2.heap.size := g2.size
      clear hz2 hg2 g1 ho hr1
      go_wp2_with (at_builtin; refine wpList_app1 _ rfl _ _ rfl w.heap.size _ xs rfl (o2.alloc _) w2.heap.size z rfl (cell_one1 _ _ _) (by omega) (by simp; omega) ?_; intro A3 c3 w3 o3 b3)
      have b3' : Below w.heap.size w2 w3 := ((Below.refl _ w2).alloc hsz _).trans b3
      have hr3 := hr2.below b3' hrl
      have g3 := grown_step g2 b3' (Nat.le_refl _)
      clear b3 b3' hr2 g2 o2
      go_wp2_with fail
      go_roundw
      case rel => exact ⟨k + 1, xs ++ [z], by omega, by rw [List.length_append, HXL.out]; rfl, by go_num, o3, hr3, g3⟩
      case measure => simp [intOf]; omega
    · obtain rfl : k = N := by omega
      have hsz : w.heap.size ≤ wr.heap.size := g1.size
      obtain ⟨A, c, rfl, hrd⟩ := ho.form
      clear hrd
      go_wp2_with fail
      refine (odd_c r (m + 1 + k) n wr hr1 (by omega) (by omega) (by omega)).mono ?_
      rintro e w2 ⟨b, rfl, hr2, hg2, hz2⟩
      have g2 := grown_pick g1 hg2
      have o2 := ho.pick hrl hg2
      clear hz2 hg2 g1 ho hr1
      cases b
      · go_wp2_with fail
        go_ret
        exact ⟨xs, A, c, by omega, rfl, o2, hr2.more (by omega), g2⟩
      · go_wp2_with fail
        refine (pick_c r (m + 1 + k + 1) 2 w2 hr2 (by omega) (by omega) (by omega)).mono ?_
        rintro e w3 ⟨z, rfl, hz0, hz1, hr3, hg3, hz3⟩
        have g3 := grown_pick g2 hg3
        have o3 := o2.pick hrl hg3
        have hsz3 : w.heap.size ≤ w3.heap.size := g3.size
        clear hz3 hg3 g2 o2 hr2
        by_cases hzz : z = 0
        · subst hzz
          go_wp2_with fail
          have b4 : Below w.heap.size w3 (w3.alloc (.cells #[.int .i64 (-1), .int .i64 9] 3)) := (Below.refl _ _).alloc hsz3 _
          have hc4 := cell_two w3 (-1) 9
          refine (pick_c r (m + 1 + k + 1 + 1) 2 _ (hr3.below b4 hrl) (by omega) (by omega) (by omega)).mono ?_
          rintro e w5 ⟨y, rfl, hy0, hy1, hr5, hg5, hz5⟩
          have g5 := grown_pick (grown_step g3 b4 (Nat.le_refl _)) hg5
          have o5 := (o3.alloc (.cells #[.int .i64 (-1), .int .i64 9] 3)).pick hrl hg5
          have k1 := hg5.cell hc4.1 (by simp; omega)
          have k2 := hg5.cell hc4.2 (by simp; omega)
          have hsz5 : w.heap.size ≤ w5.heap.size := g5.size
          clear hz5 hg5 b4 hc4 o3 g3 hr3
          have hy : y = 0 ∨ y = 1 := by omega
          rcases hy with rfl | rfl
          all_goals
            go_wp2_with (at_builtin; refine wpList_app1 _ rfl _ _ rfl w.heap.size _ xs rfl (o5.alloc _) w5.heap.size _ rfl (cell_one1 _ _ _) (by omega) (by simp; omega) ?_; intro A6 c6 w6 o6 b6)
            have b6' : Below w.heap.size w5 w6 := ((Below.refl _ w5).alloc hsz5 _).trans b6
            have hr6 := hr5.below b6' hrl
            have g6 := grown_step g5 b6' (Nat.le_refl _)
            go_wp2_with fail
            go_ret
            exact drawn_app (by omega) o6 (hr6.more (by omega)) g6
        · have hzb : (z == 0) = false := by simp [hzz]
          clear hzz
          go_wp2_with (at_make; refine wpList_mk _ rfl _ _ rfl _ 7 rfl rfl rfl (by omega) ?_; intro w4 o4 b4)
          have g4 := grown_step g3 b4 hsz3
          have hr4 := hr3.below b4 (by omega)
          have o4' := o4.mono hsz3
          clear b4 o4
          go_wp2_with fail
          go_ret
          exact ⟨List.replicate 7 0, _, 7, by simp, rfl, o4', hr4.more (by omega), g4⟩

theorem DrawCodedOk_c (a : Option Addr) (len cap : Nat) (zs : List Int) (w : World) (h : RowIn .u8 w a len cap zs) (hn : len ≤ 1048576) :
    Calls Try.prog 40 #[.slice a len cap] w (DrawR w 8) := by
  have ho := open_c a len cap zs w h hn
  clear h
  go_enter Try.func40, Try.ntmps40
  go_wp2_with fail
  refine ho.mono ?_
  rintro e w1 ⟨r, rfl, hr, hb, hr0, hr1⟩
  go_wp2_with fail
  refine (l20Code_c r 0 3 w1 hr (by omega) (by omega) (by omega)).mono ?_
  rintro e w2 ⟨xs, A, c, hx, rfl, ho2, hr2, hg2⟩
  go_wp2_with fail
  go_ret
  exact ⟨xs, A, c, hx, rfl, ho2.mono hb.size, below_pick hb hr0 hb.size hg2⟩

end Go.Proofs.Ytkongicjhdfkiaa
