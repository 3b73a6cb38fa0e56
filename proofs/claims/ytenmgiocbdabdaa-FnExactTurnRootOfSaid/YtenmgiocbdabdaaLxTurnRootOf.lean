/- The walk of the law FnExactTurnRootOf. -/
import Derived.Test.YtenmgiocbdabdaaS12
import Derived.Test.YtenmgiocbdabdaaQ6
import Derived.Test.YtenmgiocbdabdaaM4
namespace Go.Proofs.Ytenmgiocbdabdaa
open Go.RowKit
set_option linter.unusedVariables false

set_option maxHeartbeats 2000000 in
theorem FnExactTurnRootOf_w (a0 : Option Addr) (len0 cap0 : Nat) (z0 : List Int) (w : World) (h0 : RowIn .i64 w a0 len0 cap0 z0) :
    Calls Try.prog 21 #[.slice a0 len0 cap0] w fun e w' => e = .returned (.bool true) ∧ Below w.heap.size w w' := by
  have hcap0 := h0.cap
  unfold maxLen at hcap0
  obtain ⟨xs0, rfl, hR0, _⟩ := h0.read
  by_cases hbig0 : 1048576 < xs0.length
  · clear hR0 h0
    go_enter Try.func21, Try.ntmps21
    go_wp2_with fail
    go_ret
    exact ⟨rfl, Below.refl _ _⟩
  · have hx0 : xs0.length ≤ 1048577 := by omega
    have hy0 : xs0.length ≤ 1048576 := by omega
    clear hbig0
    clear h0
    have hL : (rootL xs0).length ≤ 1048577 := rootL_len _ hx0
    have SC := hid (fun A0 c0 W r0 => sTurnRootOf_c A0 c0 xs0 W r0 hx0)
    have IC := hid (fun A0 c0 W r0 => iTurnRootOf_c A0 c0 xs0 W r0 hx0)
    generalize rootL xs0 = L at *
    go_enter Try.func21, Try.ntmps21
    go_wp2_with fail
    refine (toIntS_c a0 cap0 xs0 _ hR0 hy0).mono ?_
    rintro e w1 ⟨Ap0, cp0, rfl, op0, b⟩
    have B1 := stepB (Below.refl w.heap.size w) (Below.refl w.heap.size w).size b
    have s1 := b.size
    clear b
    go_wp2_with fail
    refine (SC.out Ap0 cp0 _ op0.rd).mono ?_
    rintro e w2 ⟨Aw, cw, rfl, ow, b⟩
    have B2 := stepB B1 B1.size b
    replace op0 := op0.below b
    have s2 := b.size
    clear b
    have Tw := hid ow.lt
    clear op0
    go_wp2_with fail
    refine (toIntS_c a0 cap0 xs0 _ (hR0.below B2) hy0).mono ?_
    rintro e w3 ⟨Ax0, cx0, rfl, ox0, b⟩
    have B3 := stepB B2 B2.size b
    replace ow := ow.below b
    have s3 := b.size
    clear b
    have z0' := B3.size
    have TX0 := hid ox0.lt
    go_wp2_with fail
    refine (IC.out Ax0 cx0 _ ox0.rd).mono ?_
    rintro e w4 ⟨Ag, cg, rfl, og, b⟩
    have B4 := stepB B3 B3.size b
    replace ow := ow.below b
    replace ox0 := ox0.below b
    have s4 := b.size
    clear b
    have Tg := hid og.lt
    go_wp2_with fail
    refine (eqIntS_c Ag Aw cg cw L L _ og.rd ow.rd hL hL).mono ?_
    rintro e w5 ⟨rfl, b⟩
    have B5 := stepB B4 B4.size b
    replace ow := ow.below b
    replace ox0 := ox0.below b
    replace og := og.below b
    have s5 := b.size
    clear b
    go_wp2_with fail
    refine (toIntS_c a0 cap0 xs0 _ (hR0.below B5) hy0).mono ?_
    rintro e w6 ⟨Ay0, cy0, rfl, oy0, b⟩
    have B6 := stepB B5 B5.size b
    replace ow := ow.below b
    replace ox0 := ox0.below b
    replace og := og.below b
    have s6 := b.size
    clear b
    go_wp2_with fail
    refine (eqIntS_c Ax0 Ay0 cx0 cy0 xs0 xs0 _ ox0.rd oy0.rd hx0 hx0).mono ?_
    rintro e w7 ⟨rfl, b⟩
    have B7 := stepB B6 B6.size b
    replace ow := ow.below b
    replace ox0 := ox0.below b
    replace og := og.below b
    replace oy0 := oy0.below b
    have s7 := b.size
    clear b
    clear oy0
    go_wp2_with fail
    refine (markIntS_any _ cx0 Ax0 xs0 _ _ ox0 hx0 (by omega) (by omega)).mono ?_
    rintro e w8 ⟨rfl, m0, gg, _⟩
    have B8 := below_mark B7 ox0 (by omega) gg
    replace ow := ow.apart ox0 (fun g hg g' hg' => by have := Tw.out g hg; have := TX0.out g' hg'; omega) gg
    replace og := og.apart ox0 (fun g hg g' hg' => by have := Tg.out g hg; have := TX0.out g' hg'; omega) gg
    clear gg ox0 m0
    go_wp2_with fail
    refine (eqIntS_c Ag Aw cg cw L L _ og.rd ow.rd hL hL).mono ?_
    rintro e w9 ⟨rfl, b⟩
    have B9 := stepB B8 B8.size b
    replace ow := ow.below b
    replace og := og.below b
    have s9 := b.size
    clear b
    go_wp2_with fail
    refine (markIntS_any _ cg Ag L _ _ og hL (by omega) (by omega)).mono ?_
    rintro e w10 ⟨rfl, om, gg, _⟩
    have B10 := below_mark B9 og (by omega) gg
    replace ow := ow.apart og (fun g hg g' hg' => by have := Tw.out g hg; have := Tg.out g' hg'; omega) gg
    clear gg og
    go_wp2_with fail
    refine (heldIntS_c Ag cg L.length 1 _ om.rd hL (by omega) (by omega)).mono ?_
    rintro e w11 ⟨rfl, rfl⟩
    go_wp2_with fail
    refine (toIntS_c a0 cap0 xs0 _ (hR0.below B10) hy0).mono ?_
    rintro e w12 ⟨Aq0, cq0, rfl, oq0, b⟩
    have B12 := stepB B10 B10.size b
    replace ow := ow.below b
    replace om := om.below b
    have s12 := b.size
    clear b
    go_wp2_with fail
    refine (IC.out Aq0 cq0 _ oq0.rd).mono ?_
    rintro e w13 ⟨Ah, ch, rfl, oh, b⟩
    have B13 := stepB B12 B12.size b
    replace ow := ow.below b
    replace om := om.below b
    replace oq0 := oq0.below b
    have s13 := b.size
    clear b
    clear oq0
    go_wp2_with fail
    refine (eqIntS_c Ah Aw ch cw L L _ oh.rd ow.rd hL hL).mono ?_
    rintro e w14 ⟨rfl, b⟩
    have B14 := stepB B13 B13.size b
    replace ow := ow.below b
    replace om := om.below b
    replace oh := oh.below b
    have s14 := b.size
    clear b
    go_wp2_with fail
    refine (heldIntS_c Ag cg L.length 1 _ om.rd hL (by omega) (by omega)).mono ?_
    rintro e w15 ⟨rfl, rfl⟩
    go_wp2_with fail
    go_ret
    exact ⟨rfl, B14⟩

end Go.Proofs.Ytenmgiocbdabdaa
