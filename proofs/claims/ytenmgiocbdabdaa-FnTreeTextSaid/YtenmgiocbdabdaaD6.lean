/- The draws of pairs and turns. -/
import Derived.Test.YtenmgiocbdabdaaD5
import Derived.Test.YtenmgiocbdabdaaS4
namespace Go.Proofs.Ytenmgiocbdabdaa
open Go.RowKit
set_option linter.unusedVariables false

theorem Own.rdr {B r m : Nat} {w w' : World} {v : Value} {xs : List Int} (h : Own B w v xs) (hr : Rdr w r m) (hg : w.grownBy w' (some r)) : Own B w' v xs := h.kept hg (by
  rcases h.2 with ⟨rfl, _⟩ | ⟨g, cap, cur, rfl, _, hh, _⟩
  · exact .inl rfl
  · right
    intro e
    obtain rfl : g = r := by simpa [Value.ownBlock] using e
    obtain ⟨_, _, _, _, hb, _⟩ := hr
    rw [hb] at hh
    simp at hh)
def DrawR2 (w : World) (n : Nat) (e : Ending) (w' : World) : Prop :=
  ∃ (xs ys : List Int) (A B : Option Addr) (c c' : Nat), xs.length ≤ n ∧ ys.length ≤ n + 1 ∧ e = .returned (.tuple #[.slice A xs.length c, .slice B ys.length c']) ∧ Own w.heap.size w' (.slice A xs.length c) xs ∧ Own w.heap.size w' (.slice B ys.length c') ys ∧ Below w.heap.size w w'
theorem DrawTurnRootOf_c (a : Option Addr) (len cap : Nat) (zs : List Int) (w : World) (h : RowIn .u8 w a len cap zs) (hn : len ≤ 1048576) :
    Calls Try.prog 97 #[.slice a len cap] w (DrawR w 8) := by
  have ho := open_c a len cap zs w h hn
  clear h
  go_enter Try.func97, Try.ntmps97
  go_wp2_with fail
  refine ho.mono ?_
  rintro e w1 ⟨r, rfl, hr, hb, hr0, hr1⟩
  go_wp2_with fail
  refine (l20Turn_c r 0 w1 hr (by omega)).mono ?_
  rintro e w2 ⟨xs, A, c, hx, rfl, ho2, hr2, hg2⟩
  go_wp2_with fail
  go_ret
  exact ⟨xs, A, c, hx, rfl, ho2.mono hb.size, below_pick hb hr0 hb.size hg2⟩
set_option maxHeartbeats 1000000 in
theorem DrawWithOk_c (a : Option Addr) (len cap : Nat) (zs : List Int) (w : World) (h : RowIn .u8 w a len cap zs) (hn : len ≤ 1048576) :
    Calls Try.prog 72 #[.slice a len cap] w (DrawR2 w 8) := by
  have ho := open_c a len cap zs w h hn
  clear h
  go_enter Try.func72, Try.ntmps72
  go_wp2_with fail
  refine ho.mono ?_
  rintro e w1 ⟨r, rfl, hr, hb, hr0, hr1⟩
  go_wp2_with fail
  refine (l20Two_c r 0 5 14 w1 hr (by omega) (by omega) (by omega) (by omega) (by omega)).mono ?_
  rintro e w2 ⟨xs, ys, A, B, c, c', hx, hy, rfl, of, og, hr2, hg2⟩
  have B2 := below_pick hb hr0 hb.size hg2
  have of := of.mono hb.size
  have og := og.mono hb.size
  have hsz := B2.size
  have c1 := sMapOk_c A c xs w2 of.rd (by omega)
  clear hr hb ho hg2
  by_cases hf : mapOkB xs = true
  · rw [hf] at c1
    go_wp2_with fail
    refine c1.mono ?_; rintro e w' ⟨rfl, rfl⟩
    go_wp2_with fail
    refine (pick_c r (0 + 40) 2 w2 hr2 (by omega) (by omega) (by omega)).mono ?_
    rintro e w3 ⟨z, rfl, hz0, hz1, hr3, hg3, hz3⟩
    have B3 := below_pick B2 hr0 hsz hg3
    have of3 := of.rdr hr2 hg3
    have og3 := og.rdr hr2 hg3
    clear hz3 of og c1 B2
    by_cases hzz : z = 0
    · subst hzz
      go_wp2_with fail
      refine (pick_c r (0 + 40 + 1) 5 w3 hr3 (by omega) (by omega) (by omega)).mono ?_
      rintro e w4 ⟨t, rfl, ht0, ht1, hr4, hg4, hz4⟩
      have B4 := below_pick B3 hr0 B3.size hg4
      have of4 := of3.rdr hr3 hg4
      have k4 := hid (sPowerOf_c A c xs t w4 of4.rd (by omega))
      have HL := hid (show (powL xs t).length ≤ 8 + 1 by unfold powL; split <;> simp [pw_len]; omega)
      clear hz4 hg4 hg3 hr3 B3 of3 og3
      go_wp2_with fail
      refine k4.out.mono ?_
      rintro e w5 ⟨A5, c5, rfl, o5, b5⟩
      have B5 := B4.trans (b5.mono B4.size)
      have of5 := of4.below b5
      go_wp2_with fail
      go_ret2
      exact ⟨xs, powL xs t, A, A5, c, c5, hx, HL.out, rfl, of5, o5.mono B4.size, B5⟩
    · have q1 : (z == 0) = false := by simpa using hzz
      go_wp2_with fail
      go_ret2
      exact ⟨xs, ys, A, B, c, c', hx, hy, rfl, of3, og3, B3⟩
  · rw [show mapOkB xs = false by simpa using hf] at c1
    go_wp2_with fail
    refine c1.mono ?_; rintro e w' ⟨rfl, rfl⟩
    go_wp2_with fail
    go_ret2
    exact ⟨xs, ys, A, B, c, c', hx, hy, rfl, of, og, B2⟩


end Go.Proofs.Ytenmgiocbdabdaa
