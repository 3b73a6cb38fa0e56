/- The walk of the law FnExactSameShape. -/
import Derived.Test.YtenmgiocbdabdaaX10
import Derived.Test.YtenmgiocbdabdaaQ6
import Derived.Test.YtenmgiocbdabdaaM4
namespace Go.Proofs.Ytenmgiocbdabdaa
open Go.RowKit
set_option linter.unusedVariables false

set_option maxHeartbeats 2000000 in
theorem FnExactSameShape_w (a0 : Option Addr) (len0 cap0 : Nat) (z0 : List Int) (a1 : Option Addr) (len1 cap1 : Nat) (z1 : List Int) (w : World) (h0 : RowIn .i64 w a0 len0 cap0 z0) (h1 : RowIn .i64 w a1 len1 cap1 z1) :
    Calls Try.prog 30 #[.slice a0 len0 cap0, .slice a1 len1 cap1] w fun e w' => e = .returned (.bool true) ∧ Below w.heap.size w w' := by
  have hcap0 := h0.cap
  have hcap1 := h1.cap
  unfold maxLen at hcap0 hcap1
  obtain ⟨xs0, rfl, hR0, _⟩ := h0.read
  obtain ⟨xs1, rfl, hR1, _⟩ := h1.read
  by_cases hbig0 : 1048576 < xs0.length
  · clear hR0 h0 hR1 h1
    go_enter Try.func30, Try.ntmps30
    go_wp2_with fail
    go_ret
    exact ⟨rfl, Below.refl _ _⟩
  · have hx0 : xs0.length ≤ 1048577 := by omega
    have hy0 : xs0.length ≤ 1048576 := by omega
    clear hbig0
    by_cases hbig1 : 1048576 < xs1.length
    · clear hR0 h0 hR1 h1
      go_enter Try.func30, Try.ntmps30
      go_wp2_with fail
      go_ret
      exact ⟨rfl, Below.refl _ _⟩
    · have hx1 : xs1.length ≤ 1048577 := by omega
      have hy1 : xs1.length ≤ 1048576 := by omega
      clear hbig1
      clear h0 h1
      have SC := hid (fun A0 A1 c0 c1 W r0 r1 => sSameShape_c A0 A1 c0 c1 xs0 xs1 W r0 r1 hx0 hx1)
      have IC := hid (fun A0 A1 c0 c1 W r0 r1 => iSameShape_c A0 A1 c0 c1 xs0 xs1 W r0 r1 hx0 hx1)
      go_enter Try.func30, Try.ntmps30
      go_wp2_with fail
      refine (toIntS_c a0 cap0 xs0 _ hR0 hy0).mono ?_
      rintro e w1 ⟨Ap0, cp0, rfl, op0, b⟩
      have B1 := stepB (Below.refl w.heap.size w) (Below.refl w.heap.size w).size b
      clear b
      go_wp2_with fail
      refine (toIntS_c a1 cap1 xs1 _ (hR1.below B1) hy1).mono ?_
      rintro e w2 ⟨Ap1, cp1, rfl, op1, b⟩
      have B2 := stepB B1 B1.size b
      replace op0 := op0.below b
      clear b
      go_wp2_with fail
      refine (SC.out Ap0 Ap1 cp0 cp1 _ op0.rd op1.rd).mono ?_
      rintro e w3 ⟨rfl, b⟩
      have B3 := stepB B2 B2.size b
      replace op0 := op0.below b
      replace op1 := op1.below b
      clear b
      clear op0
      clear op1
      go_wp2_with fail
      refine (toIntS_c a0 cap0 xs0 _ (hR0.below B3) hy0).mono ?_
      rintro e w4 ⟨Ax0, cx0, rfl, ox0, b⟩
      have B4 := stepB B3 B3.size b
      clear b
      go_wp2_with fail
      refine (toIntS_c a1 cap1 xs1 _ (hR1.below B4) hy1).mono ?_
      rintro e w5 ⟨Ax1, cx1, rfl, ox1, b⟩
      have B5 := stepB B4 B4.size b
      replace ox0 := ox0.below b
      clear b
      go_wp2_with fail
      refine (IC.out Ax0 Ax1 cx0 cx1 _ ox0.rd ox1.rd).mono ?_
      rintro e w6 ⟨rfl, b⟩
      have B6 := stepB B5 B5.size b
      replace ox0 := ox0.below b
      replace ox1 := ox1.below b
      clear b
      go_wp2_with fail
      refine (toIntS_c a0 cap0 xs0 _ (hR0.below B6) hy0).mono ?_
      rintro e w7 ⟨Ay0, cy0, rfl, oy0, b⟩
      have B7 := stepB B6 B6.size b
      replace ox0 := ox0.below b
      replace ox1 := ox1.below b
      clear b
      go_wp2_with fail
      refine (eqIntS_c Ax0 Ay0 cx0 cy0 xs0 xs0 _ ox0.rd oy0.rd hx0 hx0).mono ?_
      rintro e w8 ⟨rfl, b⟩
      have B8 := stepB B7 B7.size b
      replace ox0 := ox0.below b
      replace ox1 := ox1.below b
      replace oy0 := oy0.below b
      clear b
      clear oy0
      go_wp2_with fail
      refine (toIntS_c a1 cap1 xs1 _ (hR1.below B8) hy1).mono ?_
      rintro e w9 ⟨Ay1, cy1, rfl, oy1, b⟩
      have B9 := stepB B8 B8.size b
      replace ox0 := ox0.below b
      replace ox1 := ox1.below b
      clear b
      go_wp2_with fail
      refine (eqIntS_c Ax1 Ay1 cx1 cy1 xs1 xs1 _ ox1.rd oy1.rd hx1 hx1).mono ?_
      rintro e w10 ⟨rfl, b⟩
      have B10 := stepB B9 B9.size b
      replace ox0 := ox0.below b
      replace ox1 := ox1.below b
      replace oy1 := oy1.below b
      clear b
      clear oy1
      go_wp2_with fail
      go_ret
      exact ⟨rfl, B10⟩

end Go.Proofs.Ytenmgiocbdabdaa
