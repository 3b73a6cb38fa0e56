/- The walk of the law FnExactCodedOk. -/
import Derived.Test.YtkongicjhdfkiaaM3
import Derived.Test.YtkongicjhdfkiaaM4
namespace Go.Proofs.Ytkongicjhdfkiaa
open Go.RowKit
set_option linter.unusedVariables false

theorem FnExactCodedOk_w (a : Option Addr) (len cap : Nat) (zs : List Int) (w : World) (h : RowIn .i64 w a len cap zs) :
    Calls Try.prog 6 #[.slice a len cap] w fun e w' => e = .returned (.bool true) ∧ Below w.heap.size w w' := by
  have hcap := h.cap
  unfold maxLen at hcap
  obtain ⟨xs, rfl, hR, _⟩ := h.read
  by_cases hbig : 1048576 < xs.length
  · clear hR h
    go_enter Try.func6, Try.ntmps6
    go_wp2_with fail
    go_ret
    exact ⟨rfl, Below.refl _ _⟩
  · have HR := hid hR
    clear hR h
    go_enter Try.func6, Try.ntmps6
    go_wp2_with fail
    refine (toIntS_c a cap xs _ HR.out (by omega)).mono ?_
    rintro e w1 ⟨A1, c1, rfl, ho1, hb1⟩
    have HO1 := hid ho1
    have HB1 := hid hb1
    clear ho1 hb1
    go_wp2_with fail
    refine (sCodedOk_c A1 c1 xs _ HO1.out.rd (by omega)).mono ?_
    rintro e w1' ⟨rfl, rfl⟩
    go_wp2_with fail
    refine (toIntS_c a cap xs _ (HR.out.below HB1.out) (by omega)).mono ?_
    rintro e w2 ⟨A2, c2, rfl, ho2, hb2⟩
    have HO2 := hid ho2
    have HB2 := hid (HB1.out.trans (hb2.mono HB1.out.size))
    clear ho2 hb2
    go_wp2_with fail
    refine (iCodedOk_c A2 c2 xs _ HO2.out.rd (by omega)).mono ?_
    rintro e w2' ⟨rfl, rfl⟩
    go_wp2_with fail
    refine (toIntS_c a cap xs _ (HR.out.below HB2.out) (by omega)).mono ?_
    rintro e w3 ⟨A3, c3, rfl, ho3, hb3⟩
    have HO3 := hid ho3
    have HO2' := hid (HO2.out.below hb3)
    have HB3 := hid (HB2.out.trans (hb3.mono HB2.out.size))
    clear ho3 hb3
    go_wp2_with fail
    refine (eqIntS_c A2 A3 c2 c3 xs xs _ HO2'.out.rd HO3.out.rd (by omega) (by omega)).mono ?_
    rintro e w4 ⟨rfl, hb4⟩
    have HB4 := hid (HB3.out.trans (hb4.mono HB3.out.size))
    clear hb4
    go_wp2_with fail
    go_ret
    exact ⟨rfl, HB4.out⟩

end Go.Proofs.Ytkongicjhdfkiaa
