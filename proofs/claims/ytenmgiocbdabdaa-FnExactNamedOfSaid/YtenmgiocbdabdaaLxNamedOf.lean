/- The walk of the law FnExactNamedOf. -/
import Derived.Test.YtenmgiocbdabdaaQ6
import Derived.Test.YtenmgiocbdabdaaM4
namespace Go.Proofs.Ytenmgiocbdabdaa
open Go.RowKit
set_option linter.unusedVariables false

set_option maxHeartbeats 2000000 in
theorem FnExactNamedOf_w (a0 : Option Addr) (len0 cap0 : Nat) (z0 : List Int) (a1 : Option Addr) (len1 cap1 : Nat) (z1 : List Int) (w : World) (h0 : RowIn .i64 w a0 len0 cap0 z0) (h1 : RowIn .i64 w a1 len1 cap1 z1) :
    Calls Try.prog 7 #[.slice a0 len0 cap0, .slice a1 len1 cap1] w fun e w' => e = .returned (.bool true) ∧ Below w.heap.size w w' := by
  have hcap0 := h0.cap
  have hcap1 := h1.cap
  unfold maxLen at hcap0 hcap1
  obtain ⟨xs0, rfl, hR0, _⟩ := h0.read
  obtain ⟨xs1, rfl, hR1, _⟩ := h1.read
  by_cases hbig0 : 1048576 < xs0.length
  · clear hR0 h0 hR1 h1
    go_enter Try.func7, Try.ntmps7
    go_wp2_with fail
    go_ret
    exact ⟨rfl, Below.refl _ _⟩
  · have hx0 : xs0.length ≤ 1048577 := by omega
    have hy0 : xs0.length ≤ 1048576 := by omega
    clear hbig0
    by_cases hbig1 : 1048576 < xs1.length
    · clear hR0 h0 hR1 h1
      go_enter Try.func7, Try.ntmps7
      go_wp2_with fail
      go_ret
      exact ⟨rfl, Below.refl _ _⟩
    · have hx1 : xs1.length ≤ 1048577 := by omega
      have hy1 : xs1.length ≤ 1048576 := by omega
      clear hbig1
      clear h0 h1
      have hL : (namedL xs0 xs1).length ≤ 1048577 := named_len _ _ hx0
      have SC := hid (fun A0 A1 c0 c1 W r0 r1 => sNamedOf_c A0 A1 c0 c1 xs0 xs1 W r0 r1 hx0 hx1)
      have IC := hid (fun A0 A1 c0 c1 W r0 r1 => iNamedOf_c A0 A1 c0 c1 xs0 xs1 W r0 r1 hx0 hx1)
      generalize namedL xs0 xs1 = L at *
      go_enter Try.func7, Try.ntmps7
      go_wp2_with fail
      refine (toIntS_c a0 cap0 xs0 _ hR0 hy0).mono ?_
      rintro e w1 ⟨Ap0, cp0, rfl, op0, b⟩
      have B1 := stepB (Below.refl w.heap.size w) (Below.refl w.heap.size w).size b
      have s1 := b.size
      clear b
      go_wp2_with fail
      refine (toIntS_c a1 cap1 xs1 _ (hR1.below B1) hy1).mono ?_
      rintro e w2 ⟨Ap1, cp1, rfl, op1, b⟩
      have B2 := stepB B1 B1.size b
      replace op0 := op0.below b
      have s2 := b.size
      clear b
      go_wp2_with fail
      refine (SC.out Ap0 Ap1 cp0 cp1 _ op0.rd op1.rd).mono ?_
      rintro e w3 ⟨Aw, cw, rfl, ow, b⟩
      have B3 := stepB B2 B2.size b
      replace op0 := op0.below b
      replace op1 := op1.below b
      have s3 := b.size
      clear b
      have Tw := hid ow.lt
      clear op0
      clear op1
      go_wp2_with fail
      refine (toIntS_c a0 cap0 xs0 _ (hR0.below B3) hy0).mono ?_
      rintro e w4 ⟨Ax0, cx0, rfl, ox0, b⟩
      have B4 := stepB B3 B3.size b
      replace ow := ow.below b
      have s4 := b.size
      clear b
      have z0' := B4.size
      have TX0 := hid ox0.lt
      go_wp2_with fail
      refine (toIntS_c a1 cap1 xs1 _ (hR1.below B4) hy1).mono ?_
      rintro e w5 ⟨Ax1, cx1, rfl, ox1, b⟩
      have B5 := stepB B4 B4.size b
      replace ow := ow.below b
      replace ox0 := ox0.below b
      have s5 := b.size
      clear b
      have z1' := B5.size
      have TX1 := hid ox1.lt
      go_wp2_with fail
      refine (IC.out Ax0 Ax1 cx0 cx1 _ ox0.rd ox1.rd).mono ?_
      rintro e w6 ⟨Ag, cg, rfl, og, b, -⟩
      have B6 := stepB B5 B5.size b
      replace ow := ow.below b
      replace ox0 := ox0.below b
      replace ox1 := ox1.below b
      have s6 := b.size
      clear b
      have Tg := hid og.lt
      go_wp2_with fail
      refine (eqIntS_c Ag Aw cg cw L L _ og.rd ow.rd hL hL).mono ?_
      rintro e w7 ⟨rfl, b⟩
      have B7 := stepB B6 B6.size b
      replace ow := ow.below b
      replace ox0 := ox0.below b
      replace ox1 := ox1.below b
      replace og := og.below b
      have s7 := b.size
      clear b
      go_wp2_with fail
      refine (toIntS_c a0 cap0 xs0 _ (hR0.below B7) hy0).mono ?_
      rintro e w8 ⟨Ay0, cy0, rfl, oy0, b⟩
      have B8 := stepB B7 B7.size b
      replace ow := ow.below b
      replace ox0 := ox0.below b
      replace ox1 := ox1.below b
      replace og := og.below b
      have s8 := b.size
      clear b
      go_wp2_with fail
      refine (eqIntS_c Ax0 Ay0 cx0 cy0 xs0 xs0 _ ox0.rd oy0.rd hx0 hx0).mono ?_
      rintro e w9 ⟨rfl, b⟩
      have B9 := stepB B8 B8.size b
      replace ow := ow.below b
      replace ox0 := ox0.below b
      replace ox1 := ox1.below b
      replace og := og.below b
      replace oy0 := oy0.below b
      have s9 := b.size
      clear b
      clear oy0
      go_wp2_with fail
      refine (toIntS_c a1 cap1 xs1 _ (hR1.below B9) hy1).mono ?_
      rintro e w10 ⟨Ay1, cy1, rfl, oy1, b⟩
      have B10 := stepB B9 B9.size b
      replace ow := ow.below b
      replace ox0 := ox0.below b
      replace ox1 := ox1.below b
      replace og := og.below b
      have s10 := b.size
      clear b
      go_wp2_with fail
      refine (eqIntS_c Ax1 Ay1 cx1 cy1 xs1 xs1 _ ox1.rd oy1.rd hx1 hx1).mono ?_
      rintro e w11 ⟨rfl, b⟩
      have B11 := stepB B10 B10.size b
      replace ow := ow.below b
      replace ox0 := ox0.below b
      replace ox1 := ox1.below b
      replace og := og.below b
      replace oy1 := oy1.below b
      have s11 := b.size
      clear b
      clear oy1
      go_wp2_with fail
      refine (markIntS_any _ cx0 Ax0 xs0 _ _ ox0 hx0 (by omega) (by omega)).mono ?_
      rintro e w12 ⟨rfl, m0, gg, _⟩
      have B12 := below_mark B11 ox0 (by omega) gg
      replace ow := ow.apart ox0 (fun g hg g' hg' => by have := Tw.out g hg; have := TX0.out g' hg'; omega) gg
      replace ox1 := ox1.apart ox0 (fun g hg g' hg' => by have := TX1.out g hg; have := TX0.out g' hg'; omega) gg
      replace og := og.apart ox0 (fun g hg g' hg' => by have := Tg.out g hg; have := TX0.out g' hg'; omega) gg
      clear gg ox0 m0
      go_wp2_with fail
      refine (markIntS_any _ cx1 Ax1 xs1 _ _ ox1 hx1 (by omega) (by omega)).mono ?_
      rintro e w13 ⟨rfl, m1, gg, _⟩
      have B13 := below_mark B12 ox1 (by omega) gg
      replace ow := ow.apart ox1 (fun g hg g' hg' => by have := Tw.out g hg; have := TX1.out g' hg'; omega) gg
      replace og := og.apart ox1 (fun g hg g' hg' => by have := Tg.out g hg; have := TX1.out g' hg'; omega) gg
      clear gg ox1 m1
      go_wp2_with fail
      refine (eqIntS_c Ag Aw cg cw L L _ og.rd ow.rd hL hL).mono ?_
      rintro e w14 ⟨rfl, b⟩
      have B14 := stepB B13 B13.size b
      replace ow := ow.below b
      replace og := og.below b
      have s14 := b.size
      clear b
      go_wp2_with fail
      refine (markIntS_any _ cg Ag L _ _ og hL (by omega) (by omega)).mono ?_
      rintro e w15 ⟨rfl, om, gg, _⟩
      have B15 := below_mark B14 og (by omega) gg
      replace ow := ow.apart og (fun g hg g' hg' => by have := Tw.out g hg; have := Tg.out g' hg'; omega) gg
      clear gg og
      go_wp2_with fail
      refine (heldIntS_c Ag cg L.length 1 _ om.rd hL (by omega) (by omega)).mono ?_
      rintro e w16 ⟨rfl, rfl⟩
      go_wp2_with fail
      refine (toIntS_c a0 cap0 xs0 _ (hR0.below B15) hy0).mono ?_
      rintro e w17 ⟨Aq0, cq0, rfl, oq0, b⟩
      have B17 := stepB B15 B15.size b
      replace ow := ow.below b
      replace om := om.below b
      have s17 := b.size
      clear b
      go_wp2_with fail
      refine (toIntS_c a1 cap1 xs1 _ (hR1.below B17) hy1).mono ?_
      rintro e w18 ⟨Aq1, cq1, rfl, oq1, b⟩
      have B18 := stepB B17 B17.size b
      replace ow := ow.below b
      replace om := om.below b
      replace oq0 := oq0.below b
      have s18 := b.size
      clear b
      go_wp2_with fail
      refine (IC.out Aq0 Aq1 cq0 cq1 _ oq0.rd oq1.rd).mono ?_
      rintro e w19 ⟨Ah, ch, rfl, oh, b, -⟩
      have B19 := stepB B18 B18.size b
      replace ow := ow.below b
      replace om := om.below b
      replace oq0 := oq0.below b
      replace oq1 := oq1.below b
      have s19 := b.size
      clear b
      clear oq0
      clear oq1
      go_wp2_with fail
      refine (eqIntS_c Ah Aw ch cw L L _ oh.rd ow.rd hL hL).mono ?_
      rintro e w20 ⟨rfl, b⟩
      have B20 := stepB B19 B19.size b
      replace ow := ow.below b
      replace om := om.below b
      replace oh := oh.below b
      have s20 := b.size
      clear b
      go_wp2_with fail
      refine (heldIntS_c Ag cg L.length 1 _ om.rd hL (by omega) (by omega)).mono ?_
      rintro e w21 ⟨rfl, rfl⟩
      go_wp2_with fail
      go_ret
      exact ⟨rfl, B20⟩

end Go.Proofs.Ytenmgiocbdabdaa
