/- The walk of the law FnOrderOf. -/
import Derived.Test.YtenmgiocbdabdaaS13
import Derived.Test.YtenmgiocbdabdaaS6
import Derived.Test.YtenmgiocbdabdaaM4
import Derived.Test.YtenmgiocbdabdaaM5
namespace Go.Proofs.Ytenmgiocbdabdaa
open Go.RowKit
set_option linter.unusedVariables false

set_option maxHeartbeats 1000000 in
theorem FnOrderOf_w (a : Option Addr) (len cap : Nat) (zs : List Int) (w : World) (h : RowIn .u8 w a len cap zs) :
    Calls Try.prog 22 #[.slice a len cap] w fun e w' => e = .returned (.bool true) ∧ Below w.heap.size w w' := by
  have hcap := h.cap
  unfold maxLen at hcap
  by_cases hbig : 1048576 < len
  · clear h
    go_enter Try.func22, Try.ntmps22
    go_wp2_with fail
    go_ret
    exact ⟨rfl, Below.refl _ _⟩
  · have hd := DrawOrderOf_c a len cap zs w h (by omega)
    clear h
    go_enter Try.func22, Try.ntmps22
    go_wp2_with fail
    refine hd.mono ?_
    rintro e w1 ⟨xs, A, c, hx8, rfl, of, B1⟩
    clear hd
    have hx : xs.length ≤ 1048577 := by omega
    by_cases ht : turnedB xs = true
    · have gf := (turnedB_iff.1 ht).1
      have p12 := perN_12 gf
      have p1 := (perN_bd gf).1
      have e1 : orderV xs = (perN xs : Int) := by rw [orderV, if_pos ht, periodV_yes gf]
      have h7 := gf.1.2
      have CI := hid (fun (A : Option Addr) c W (r : RdA W A xs) => by have := iOrderOf_c A c xs W r hx; unfold OrderR at this; rw [e1, ht] at this; exact this)
      have CS := hid (fun (A : Option Addr) c W (r : RdA W A xs) => by have := sOrderOf_c A c xs W r hx; unfold OrderR at this; rw [e1, ht] at this; exact this)
      have CT := hid (fun (A : Option Addr) c W (r : RdA W A xs) => by have := iTurnedOf_c A c xs W r hx; rw [ht] at this; exact this)
      have CW := hid (power_at gf)
      have HL := hid (fun m => (show (pw xs m).length ≤ 1048577 by rw [pw_len]; omega))
      have H1 := hid (turn_pw ht).1
      have H2 := hid (turn_pw ht).2
      have HS := hid (show (sameL xs.length).length ≤ 1048577 by rw [← H1.out]; exact HL.out _)
      have HT := hid (show (turnedL xs).length ≤ 1048577 by rw [← H2.out]; exact HL.out _)
      clear e1 ht gf
      generalize perN xs = P at *
      generalize turnedL xs = T at *
      go_wp2_with fail
      refine (CI.out A c _ of.rd).mono ?_
      rintro e w21 ⟨rfl, b⟩
      have B21 := stepB B1 B1.size b
      replace of := of.below b
      clear b
      go_wp2_with fail
      refine (CS.out A c _ of.rd).mono ?_
      rintro e w22 ⟨rfl, b⟩
      have B22 := stepB B21 B21.size b
      replace of := of.below b
      clear b
      go_wp2_with fail
      refine (CT.out A c _ of.rd).mono ?_
      rintro e w23 ⟨At, ct, rfl, ot, b, -⟩
      have B23 := stepB B22 B22.size b
      replace of := of.below b
      clear b
      go_wp2_with fail
      refine (CW.out _ P rfl (by omega) A c _ of.rd).mono ?_
      rintro e w24 ⟨Aa, ca, rfl, oa, b⟩
      have B24 := stepB B23 B23.size b
      replace of := of.below b
      replace ot := ot.below b
      clear b
      go_wp2_with fail
      refine (iSameOf_c xs.length _).mono ?_
      rintro e w25 ⟨Ab, cb, rfl, ob, b, -⟩
      have B25 := stepB B24 B24.size b
      replace of := of.below b
      replace ot := ot.below b
      replace oa := oa.below b
      clear b
      go_wp2_with fail
      refine (sameInts_t Aa Ab ca cb _ _ _ oa.rd ob.rd (HL.out _) HS.out H1.out).mono ?_
      rintro e w26 ⟨rfl, b⟩
      have B26 := stepB B25 B25.size b
      replace of := of.below b
      replace ot := ot.below b
      replace oa := oa.below b
      replace ob := ob.below b
      clear b
      go_wp2_with fail
      refine (CW.out _ (P - 1) (by omega) (by omega) A c _ of.rd).mono ?_
      rintro e w27 ⟨Ad, cd, rfl, od, b⟩
      have B27 := stepB B26 B26.size b
      replace of := of.below b
      replace ot := ot.below b
      replace oa := oa.below b
      replace ob := ob.below b
      clear b
      go_wp2_with fail
      refine (sameInts_t Ad At cd ct _ _ _ od.rd ot.rd (HL.out _) HT.out H2.out).mono ?_
      rintro e w28 ⟨rfl, b⟩
      have B28 := stepB B27 B27.size b
      replace of := of.below b
      replace ot := ot.below b
      replace oa := oa.below b
      replace ob := ob.below b
      replace od := od.below b
      clear b
      go_wp2_with fail
      go_ret
      exact ⟨rfl, B28⟩
    · have ht' : turnedB xs = false := by simpa using ht
      have e1 : orderV xs = -1 := by rw [orderV, if_neg ht]
      have CI := hid (fun (A : Option Addr) c W (r : RdA W A xs) => by have := iOrderOf_c A c xs W r hx; unfold OrderR at this; rw [e1, ht'] at this; exact this)
      have CS := hid (fun (A : Option Addr) c W (r : RdA W A xs) => by have := sOrderOf_c A c xs W r hx; unfold OrderR at this; rw [e1, ht'] at this; exact this)
      have CT := hid (fun (A : Option Addr) c W (r : RdA W A xs) => by have := iTurnedOf_c A c xs W r hx; rw [ht'] at this; exact this)
      clear e1 ht ht'
      go_wp2_with fail
      refine (CI.out A c _ of.rd).mono ?_
      rintro e w21 ⟨rfl, b⟩
      have B21 := stepB B1 B1.size b
      replace of := of.below b
      clear b
      go_wp2_with fail
      refine (CS.out A c _ of.rd).mono ?_
      rintro e w22 ⟨rfl, b⟩
      have B22 := stepB B21 B21.size b
      replace of := of.below b
      clear b
      go_wp2_with fail
      refine (CT.out A c _ of.rd).mono ?_
      rintro e w23 ⟨At, ct, rfl, ot, b, -⟩
      have B23 := stepB B22 B22.size b
      replace of := of.below b
      clear b
      clear of
      clear ot
      go_wp2_with fail
      refine (alive_c _).mono ?_
      rintro e w24 ⟨rfl, b⟩
      have B24 := stepB B23 B23.size b
      clear b
      go_wp2_with fail
      go_ret
      exact ⟨rfl, B24⟩

end Go.Proofs.Ytenmgiocbdabdaa
