/- The walk of the law FnExactShapeText. -/
import Derived.Test.YtenmgiocbdabdaaX10
import Derived.Test.YtenmgiocbdabdaaQ6
import Derived.Test.YtenmgiocbdabdaaM4
namespace Go.Proofs.Ytenmgiocbdabdaa
open Go.RowKit
set_option linter.unusedVariables false

set_option maxHeartbeats 2000000 in
theorem FnExactShapeText_w (a0 : Option Addr) (len0 cap0 : Nat) (z0 : List Int) (w : World) (h0 : RowIn .i64 w a0 len0 cap0 z0) :
    Calls Try.prog 28 #[.slice a0 len0 cap0] w fun e w' => e = .returned (.bool true) ∧ Below w.heap.size w w' := by
  have hcap0 := h0.cap
  unfold maxLen at hcap0
  obtain ⟨xs0, rfl, hR0, _⟩ := h0.read
  by_cases hbig0 : 1048576 < xs0.length
  · clear hR0 h0
    go_enter Try.func28, Try.ntmps28
    go_wp2_with fail
    go_ret
    exact ⟨rfl, Below.refl _ _⟩
  · have hx0 : xs0.length ≤ 1048577 := by omega
    have hy0 : xs0.length ≤ 1048576 := by omega
    clear hbig0
    clear h0
    have SC := hid (fun A0 c0 W r0 => sShapeText_c A0 c0 xs0 W r0 hx0)
    have IC := hid (fun A0 c0 W r0 => iShapeText_c A0 c0 xs0 W r0 hx0)
    go_enter Try.func28, Try.ntmps28
    go_wp2_with fail
    refine (toIntS_c a0 cap0 xs0 _ hR0 hy0).mono ?_
    rintro e w1 ⟨Ap0, cp0, rfl, op0, b⟩
    have B1 := stepB (Below.refl w.heap.size w) (Below.refl w.heap.size w).size b
    clear b
    go_wp2_with fail
    refine (SC.out Ap0 cp0 _ op0.rd).mono ?_
    rintro e w2 ⟨rfl, b⟩
    have B2 := stepB B1 B1.size b
    replace op0 := op0.below b
    clear b
    clear op0
    go_wp2_with fail
    refine (toIntS_c a0 cap0 xs0 _ (hR0.below B2) hy0).mono ?_
    rintro e w3 ⟨Ax0, cx0, rfl, ox0, b⟩
    have B3 := stepB B2 B2.size b
    clear b
    go_wp2_with fail
    refine (IC.out Ax0 cx0 _ ox0.rd).mono ?_
    rintro e w4 ⟨rfl, b⟩
    have B4 := stepB B3 B3.size b
    replace ox0 := ox0.below b
    clear b
    go_wp2_with fail
    refine (toIntS_c a0 cap0 xs0 _ (hR0.below B4) hy0).mono ?_
    rintro e w5 ⟨Ay0, cy0, rfl, oy0, b⟩
    have B5 := stepB B4 B4.size b
    replace ox0 := ox0.below b
    clear b
    go_wp2_with fail
    refine (eqIntS_c Ax0 Ay0 cx0 cy0 xs0 xs0 _ ox0.rd oy0.rd hx0 hx0).mono ?_
    rintro e w6 ⟨rfl, b⟩
    have B6 := stepB B5 B5.size b
    replace ox0 := ox0.below b
    replace oy0 := oy0.below b
    clear b
    clear oy0
    go_wp2_with fail
    go_ret
    exact ⟨rfl, B6⟩

end Go.Proofs.Ytenmgiocbdabdaa
