/- The walk of the law FnExactCentreOf. -/
import Derived.Test.YtkongicjhdfkiaaM3
import Derived.Test.YtkongicjhdfkiaaM4
namespace Go.Proofs.Ytkongicjhdfkiaa
open Go.RowKit
set_option linter.unusedVariables false

theorem step {B : Nat} {w w1 w2 : World} (h : Below B w w1) (hB : B ≤ w1.heap.size) (h2 : Below w1.heap.size w1 w2) : Below B w w2 := h.trans (h2.mono hB)
theorem centreL_len (xs : List Int) (h : xs.length ≤ 1048576) : (centreL xs).length ≤ 1048577 := by
  unfold centreL
  split
  · rw [centT_len]; omega
  · simp

set_option maxHeartbeats 1000000 in
theorem FnExactCentreOf_w (a : Option Addr) (len cap : Nat) (zs : List Int) (w : World) (h : RowIn .i64 w a len cap zs) :
    Calls Try.prog 17 #[.slice a len cap] w fun e w' => e = .returned (.bool true) ∧ Below w.heap.size w w' := by
  have hcap := h.cap
  unfold maxLen at hcap
  obtain ⟨xs, rfl, hR, _⟩ := h.read
  by_cases hbig : 1048576 < xs.length
  · clear hR h
    go_enter Try.func17, Try.ntmps17
    go_wp2_with fail
    go_ret
    exact ⟨rfl, Below.refl _ _⟩
  · clear h
    have hx : xs.length ≤ 1048577 := by omega
    have hL := centreL_len xs (by omega)
    have sc := fun A c W hr => sCentreOf_c A c xs W hr hx
    have ic := fun A c W hr => iCentreOf_c A c xs W hr hx
    have SC := hid sc
    have IC := hid ic
    clear sc ic
    generalize centreL xs = L at *
    go_enter Try.func17, Try.ntmps17
    -- what is wanted
    go_wp2_with fail
    refine (toIntS_c a cap xs _ hR (by omega)).mono ?_
    rintro e w1 ⟨A1, c1, rfl, o1, b1⟩
    go_wp2_with fail
    refine (SC.out A1 c1 _ o1.rd).mono ?_
    rintro e w2 ⟨Aw, cw, rfl, ow, b2⟩
    have B2 := step b1 b1.size b2
    have TW := hid ow.lt
    clear b1 b2 o1
    -- the argument's copy
    go_wp2_with fail
    refine (toIntS_c a cap xs _ (hR.below B2) (by omega)).mono ?_
    rintro e w3 ⟨Ax, cx, rfl, ox, b3⟩
    have B3 := step B2 B2.size b3
    have TX := hid ox.lt
    replace ow := ow.below b3
    have z3 := b3.size
    clear b3
    -- what is got
    go_wp2_with fail
    refine (IC.out Ax cx _ ox.rd).mono ?_
    rintro e w4 ⟨Ag, cg, rfl, og, b4⟩
    have B4 := step B3 B3.size b4
    have TG := hid og.lt
    replace ow := ow.below b4
    replace ox := ox.below b4
    have z4 := b4.size
    clear b4
    go_wp2_with fail
    refine (eqIntS_c Ag Aw cg cw L L _ og.rd ow.rd hL hL).mono ?_
    rintro e w5 ⟨rfl, b5⟩
    have B5 := step B4 B4.size b5
    replace ow := ow.below b5
    replace ox := ox.below b5
    replace og := og.below b5
    clear b5
    -- the argument is as it was
    go_wp2_with fail
    refine (toIntS_c a cap xs _ (hR.below B5) (by omega)).mono ?_
    rintro e w6 ⟨A6, c6, rfl, o6, b6⟩
    have B6 := step B5 B5.size b6
    replace ow := ow.below b6
    replace ox := ox.below b6
    replace og := og.below b6
    clear b6
    go_wp2_with fail
    refine (eqIntS_c Ax A6 cx c6 xs xs _ ox.rd o6.rd hx hx).mono ?_
    rintro e w7 ⟨rfl, b7⟩
    have B7 := step B6 B6.size b7
    replace ow := ow.below b7
    replace ox := ox.below b7
    replace og := og.below b7
    clear b7 o6
    -- the argument is marked
    go_wp2_with fail
    refine (markIntS_any _ cx Ax xs _ _ ox hx (by omega) (by omega)).mono ?_
    rintro e w8 ⟨rfl, _, g8, _⟩
    have B8 := below_mark B7 ox B2.size g8
    replace ow := ow.apart ox (fun g hg g' hg' => by have := (TW.out g hg).2; have := (TX.out g' hg').1; omega) g8
    replace og := og.apart ox (fun g hg g' hg' => by have := (TG.out g hg).1; have := (TX.out g' hg').2; omega) g8
    clear g8 ox
    go_wp2_with fail
    refine (eqIntS_c Ag Aw cg cw L L _ og.rd ow.rd hL hL).mono ?_
    rintro e w9 ⟨rfl, b9⟩
    have B9 := step B8 B8.size b9
    replace ow := ow.below b9
    replace og := og.below b9
    clear b9
    -- the result is marked
    go_wp2_with fail
    refine (markIntS_any _ cg Ag L _ _ og hL (by omega) (by omega)).mono ?_
    rintro e w10 ⟨rfl, om, g10, _⟩
    have B10 := below_mark B9 og B3.size g10
    replace ow := ow.apart og (fun g hg g' hg' => by have := (TW.out g hg).2; have := (TG.out g' hg').1; omega) g10
    clear g10 og
    go_wp2_with fail
    refine (heldIntS_c Ag cg L.length 1 _ om.rd hL (by omega) (by omega)).mono ?_
    rintro e w10' ⟨rfl, rfl⟩
    -- once more
    go_wp2_with fail
    refine (toIntS_c a cap xs _ (hR.below B10) (by omega)).mono ?_
    rintro e w11 ⟨A11, c11, rfl, o11, b11⟩
    have B11 := step B10 B10.size b11
    replace ow := ow.below b11
    replace om := om.below b11
    clear b11
    go_wp2_with fail
    refine (IC.out A11 c11 _ o11.rd).mono ?_
    rintro e w12 ⟨Ah, ch, rfl, oh, b12⟩
    have B12 := step B11 B11.size b12
    replace ow := ow.below b12
    replace om := om.below b12
    clear b12 o11
    go_wp2_with fail
    refine (eqIntS_c Ah Aw ch cw L L _ oh.rd ow.rd hL hL).mono ?_
    rintro e w13 ⟨rfl, b13⟩
    have B13 := step B12 B12.size b13
    replace om := om.below b13
    clear b13
    go_wp2_with fail
    refine (heldIntS_c Ag cg L.length 1 _ om.rd hL (by omega) (by omega)).mono ?_
    rintro e w13' ⟨rfl, rfl⟩
    go_wp2_with fail
    go_ret
    exact ⟨rfl, B13⟩

end Go.Proofs.Ytkongicjhdfkiaa
