/- The walk of the law FnExactWithOk. -/
import Derived.Test.YtenmgiocbdabdaaQ2
import Derived.Test.YtenmgiocbdabdaaM4
namespace Go.Proofs.Ytenmgiocbdabdaa
open Go.RowKit
set_option linter.unusedVariables false

theorem step {B : Nat} {w w1 w2 : World} (h : Below B w w1) (hB : B ≤ w1.heap.size) (h2 : Below w1.heap.size w1 w2) : Below B w w2 := h.trans (h2.mono hB)

set_option maxHeartbeats 1000000 in
theorem FnExactWithOk_w (a b : Option Addr) (lena capa lenb capb : Nat) (za zb : List Int) (w : World) (ha : RowIn .i64 w a lena capa za) (hb : RowIn .i64 w b lenb capb zb) :
    Calls Try.prog 5 #[.slice a lena capa, .slice b lenb capb] w fun e w' => e = .returned (.bool true) ∧ Below w.heap.size w w' := by
  have hcapa := ha.cap
  have hcapb := hb.cap
  unfold maxLen at hcapa hcapb
  obtain ⟨xs, rfl, hR, _⟩ := ha.read
  obtain ⟨ys, rfl, hS, _⟩ := hb.read
  by_cases hbig : 1048576 < xs.length
  · clear hR hS ha hb
    go_enter Try.func5, Try.ntmps5
    go_wp2_with fail
    go_ret
    exact ⟨rfl, Below.refl _ _⟩
  · by_cases hbig2 : 1048576 < ys.length
    · clear hR hS ha hb
      go_enter Try.func5, Try.ntmps5
      go_wp2_with fail
      go_ret
      exact ⟨rfl, Below.refl _ _⟩
    · clear ha hb
      have hx : xs.length ≤ 1048577 := by omega
      have hy : ys.length ≤ 1048577 := by omega
      go_enter Try.func5, Try.ntmps5
      go_wp2_with fail
      refine (toIntS_c a capa xs _ hR (by omega)).mono ?_
      rintro e w1 ⟨A1, c1, rfl, o1, B1⟩
      go_wp2_with fail
      refine (toIntS_c b capb ys _ (hS.below B1) (by omega)).mono ?_
      rintro e w2 ⟨A2, c2, rfl, o2, b2⟩
      have B2 := step B1 B1.size b2
      replace o1 := o1.below b2
      clear b2 B1
      go_wp2_with fail
      refine (sWithOk_c A1 A2 c1 c2 xs ys _ o1.rd o2.rd hx hy).mono ?_
      rintro e w3 ⟨rfl, b3⟩
      have B3 := step B2 B2.size b3
      clear b3 o1 o2 B2
      go_wp2_with fail
      refine (toIntS_c a capa xs _ (hR.below B3) (by omega)).mono ?_
      rintro e w4 ⟨A4, c4, rfl, o4, b4⟩
      have B4 := step B3 B3.size b4
      clear b4 B3
      go_wp2_with fail
      refine (toIntS_c b capb ys _ (hS.below B4) (by omega)).mono ?_
      rintro e w5 ⟨A5, c5, rfl, o5, b5⟩
      have B5 := step B4 B4.size b5
      replace o4 := o4.below b5
      clear b5 B4
      go_wp2_with fail
      refine (iWithOk_c A4 A5 c4 c5 xs ys _ o4.rd o5.rd hx hy).mono ?_
      rintro e w6 ⟨rfl, b6⟩
      have B6 := step B5 B5.size b6
      replace o4 := o4.below b6
      replace o5 := o5.below b6
      clear b6 B5
      go_wp2_with fail
      refine (toIntS_c a capa xs _ (hR.below B6) (by omega)).mono ?_
      rintro e w7 ⟨A7, c7, rfl, o7, b7⟩
      have B7 := step B6 B6.size b7
      replace o4 := o4.below b7
      replace o5 := o5.below b7
      clear b7 B6
      go_wp2_with fail
      refine (eqIntS_c A4 A7 c4 c7 xs xs _ o4.rd o7.rd hx hx).mono ?_
      rintro e w8 ⟨rfl, b8⟩
      have B8 := step B7 B7.size b8
      replace o5 := o5.below b8
      clear b8 B7 o7 o4
      go_wp2_with fail
      refine (toIntS_c b capb ys _ (hS.below B8) (by omega)).mono ?_
      rintro e w9 ⟨A9, c9, rfl, o9, b9⟩
      have B9 := step B8 B8.size b9
      replace o5 := o5.below b9
      clear b9 B8
      go_wp2_with fail
      refine (eqIntS_c A5 A9 c5 c9 ys ys _ o5.rd o9.rd hy hy).mono ?_
      rintro e w10 ⟨rfl, b10⟩
      have B10 := step B9 B9.size b10
      go_wp2_with fail
      go_ret
      exact ⟨rfl, B10⟩

end Go.Proofs.Ytenmgiocbdabdaa
