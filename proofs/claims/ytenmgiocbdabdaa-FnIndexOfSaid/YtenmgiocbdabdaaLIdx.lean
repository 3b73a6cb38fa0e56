/- The walk of the law FnIndexOf. -/
import Derived.Test.YtenmgiocbdabdaaS13
import Derived.Test.YtenmgiocbdabdaaM4
import Derived.Test.YtenmgiocbdabdaaM5
namespace Go.Proofs.Ytenmgiocbdabdaa
open Go.RowKit
set_option linter.unusedVariables false

set_option maxHeartbeats 1000000 in
theorem FnIndexOf_w (a : Option Addr) (len cap : Nat) (zs : List Int) (w : World) (h : RowIn .u8 w a len cap zs) :
    Calls Try.prog 19 #[.slice a len cap] w fun e w' => e = .returned (.bool true) ∧ Below w.heap.size w w' := by
  have hcap := h.cap
  unfold maxLen at hcap
  by_cases hbig : 1048576 < len
  · clear h
    go_enter Try.func19, Try.ntmps19
    go_wp2_with fail
    go_ret
    exact ⟨rfl, Below.refl _ _⟩
  · have hd := DrawIndexOf_c a len cap zs w h (by omega)
    clear h
    go_enter Try.func19, Try.ntmps19
    go_wp2_with fail
    refine hd.mono ?_
    rintro e w1 ⟨xs, A, c, hx8, rfl, of, B1⟩
    clear hd
    have hx : xs.length ≤ 1048577 := by omega
    by_cases hf : mapOkB xs = true
    · have gf := good_of hf
      obtain ⟨i1, i2, i3, i4, i5, i6⟩ := idxN_spec gf
      have p12 := perN_12 gf
      have p1 := (perN_bd gf).1
      have CI := hid (fun (A : Option Addr) c W (r : RdA W A xs) => by have := iIndexOf_c A c xs W r hx; rw [i1] at this; exact this)
      have CS := hid (fun (A : Option Addr) c W (r : RdA W A xs) => by have := sIndexOf_c A c xs W r hx; rw [i1] at this; exact this)
      have CP := hid (fun (A : Option Addr) c W (r : RdA W A xs) => by have := iPeriodOf_c A c xs W r hx; rw [periodV_yes gf] at this; exact this)
      have CW := hid (power_at gf)
      have HL := hid (fun m => (show (pw xs m).length ≤ 1048577 by rw [pw_len]; omega))
      have HT := hid (show pw xs (idxN xs) = pw xs (idxN xs + perN xs) from (pw_eq_iff' gf i2 (by omega)).2 ⟨Nat.le_refl _, by rw [show idxN xs + perN xs - idxN xs = perN xs by omega]; exact Nat.dvd_refl _⟩)
      have HN := hid (show ∀ q, 1 < idxN xs → 0 < q → pw xs (idxN xs - 1) ≠ pw xs (idxN xs - 1 + q) from fun q h1 hq e => by
        have := (pw_eq_iff' gf (by omega) (by omega)).1 e
        omega)
      have h1 := gf.1.1
      have h7 := gf.1.2
      have q9 : (idxN xs : Int) < max (xs.length : Int) 2 := by omega
      have HQ := hid q9
      clear gf i1 i4 i5 i6 hf q9
      generalize idxN xs = I at *
      generalize perN xs = P at *
      go_wp2_with fail
      refine (CI.out A c _ of.rd).mono ?_
      rintro e w21 ⟨rfl, b⟩
      have B21 := stepB B1 B1.size b
      replace of := of.below b
      clear b
      go_wp2_with fail
      refine (CS.out A c _ of.rd).mono ?_
      rintro e w22 ⟨rfl, b⟩
      have B22 := stepB B21 B21.size b
      replace of := of.below b
      clear b
      go_wp2_with fail
      refine (CP.out A c _ of.rd).mono ?_
      rintro e w23 ⟨rfl, b⟩
      have B23 := stepB B22 B22.size b
      replace of := of.below b
      clear b
      go_wp2_with fail
      refine (CW.out _ I rfl (by omega) A c _ of.rd).mono ?_
      rintro e w24 ⟨Aa, ca, rfl, oa, b⟩
      have B24 := stepB B23 B23.size b
      replace of := of.below b
      clear b
      go_wp2_with fail
      refine (CW.out _ (I + P) (by omega) (by omega) A c _ of.rd).mono ?_
      rintro e w25 ⟨Ab, cb, rfl, ob, b⟩
      have B25 := stepB B24 B24.size b
      replace of := of.below b
      replace oa := oa.below b
      clear b
      go_wp2_with fail
      refine (sameInts_t Aa Ab ca cb _ _ _ oa.rd ob.rd (HL.out _) (HL.out _) HT.out).mono ?_
      rintro e w26 ⟨rfl, b⟩
      have B26 := stepB B25 B25.size b
      replace of := of.below b
      replace oa := oa.below b
      replace ob := ob.below b
      clear b
      clear oa
      clear ob
      by_cases hI : 1 < I
      · have hI1 := hid (show ∀ q, 0 < q → pw xs (I - 1) ≠ pw xs (I - 1 + q) from fun q hq => HN.out q hI hq)
        go_wp2_with fail
        go_loopw [6] (fun i wr => ∃ K : Nat, 1 ≤ K ∧ K ≤ 13 ∧ i = .int .i64 K ∧ Own w.heap.size wr (.slice A xs.length c) xs ∧ Below w.heap.size w wr) (fun i _ => 13 - (intOf i).toNat)
        case atStart => exact ⟨1, by omega, by omega, rfl, of, B26⟩
        case round =>
          clear of B21 B22 B23 B24 B25 B26
          obtain ⟨K, hK1, hK, rfl, of, hb⟩ := hrel
          by_cases hlt : K ≤ 12
          · have hm := Nat.mul_le_mul hlt p12
            have hm1 := Nat.mul_le_mul hK1 p1
            have e1 : (K : Int) * (P : Int) = ((K * P : Nat) : Int) := (Int.natCast_mul K P).symm
            generalize K * P = Q at *
            go_wp2_with fail
            refine (CW.out _ (I - 1) (by omega) (by omega) A c _ of.rd).mono ?_
            rintro e w27 ⟨Aa, ca, rfl, oa, b⟩
            have B27 := stepB hb hb.size b
            replace of := of.below b
            clear b
            go_wp2_with fail
            refine (CW.out _ (I - 1 + Q) (by omega) (by omega) A c _ of.rd).mono ?_
            rintro e w28 ⟨Ab, cb, rfl, ob, b⟩
            have B28 := stepB B27 B27.size b
            replace of := of.below b
            replace oa := oa.below b
            clear b
            go_wp2_with fail
            refine (sameInts_f Aa Ab ca cb _ _ _ oa.rd ob.rd (HL.out _) (HL.out _) (hI1.out Q (by omega))).mono ?_
            rintro e w29 ⟨rfl, b⟩
            have B29 := stepB B28 B28.size b
            replace of := of.below b
            replace oa := oa.below b
            replace ob := ob.below b
            clear b
            go_wp2_with fail
            go_roundw
            case rel => exact ⟨K + 1, by omega, by omega, by go_num, of, B29⟩
            case measure => simp [intOf]; omega
          · obtain rfl : K = 13 := by omega
            have q9 := HQ.out
            go_wp2_with fail
            all_goals go_ret
            all_goals exact ⟨ret_bool (by first | rfl | (simp; omega)), hb⟩
      · obtain rfl : I = 1 := by omega
        have q9 := HQ.out
        go_wp2_with fail
        refine wp_loop_rounds 1 ?_
        rw [rounds_succ]
        go_wp2_with fail
        all_goals go_ret
        all_goals exact ⟨ret_bool (by first | rfl | (simp; omega)), B26⟩
    · have e1 : indexV xs = -1 := if_neg hf
      have CI := hid (fun (A : Option Addr) c W (r : RdA W A xs) => by have := iIndexOf_c A c xs W r hx; rw [e1] at this; exact this)
      have CS := hid (fun (A : Option Addr) c W (r : RdA W A xs) => by have := sIndexOf_c A c xs W r hx; rw [e1] at this; exact this)
      clear e1 hf
      go_wp2_with fail
      refine (CI.out A c _ of.rd).mono ?_
      rintro e w21 ⟨rfl, b⟩
      have B21 := stepB B1 B1.size b
      replace of := of.below b
      clear b
      go_wp2_with fail
      refine (CS.out A c _ of.rd).mono ?_
      rintro e w22 ⟨rfl, b⟩
      have B22 := stepB B21 B21.size b
      replace of := of.below b
      clear b
      clear of
      go_wp2_with fail
      refine (alive_c _).mono ?_
      rintro e w23 ⟨rfl, b⟩
      have B23 := stepB B22 B22.size b
      clear b
      go_wp2_with fail
      go_ret
      exact ⟨rfl, B23⟩

end Go.Proofs.Ytenmgiocbdabdaa
