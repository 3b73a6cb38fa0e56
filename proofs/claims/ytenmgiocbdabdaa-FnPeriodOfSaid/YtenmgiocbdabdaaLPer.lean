/- The walk of the law FnPeriodOf. -/
import Derived.Test.YtenmgiocbdabdaaS13
import Derived.Test.YtenmgiocbdabdaaM4
import Derived.Test.YtenmgiocbdabdaaM5
namespace Go.Proofs.Ytenmgiocbdabdaa
open Go.RowKit
set_option linter.unusedVariables false

set_option maxHeartbeats 1000000 in
theorem FnPeriodOf_w (a : Option Addr) (len cap : Nat) (zs : List Int) (w : World) (h : RowIn .u8 w a len cap zs) :
    Calls Try.prog 20 #[.slice a len cap] w fun e w' => e = .returned (.bool true) ∧ Below w.heap.size w w' := by
  have hcap := h.cap
  unfold maxLen at hcap
  by_cases hbig : 1048576 < len
  · clear h
    go_enter Try.func20, Try.ntmps20
    go_wp2_with fail
    go_ret
    exact ⟨rfl, Below.refl _ _⟩
  · have hd := DrawPeriodOf_c a len cap zs w h (by omega)
    clear h
    go_enter Try.func20, Try.ntmps20
    go_wp2_with fail
    refine hd.mono ?_
    rintro e w1 ⟨xs, A, c, hx8, rfl, of, B1⟩
    clear hd
    have hx : xs.length ≤ 1048577 := by omega
    by_cases hf : mapOkB xs = true
    · have gf := good_of hf
      obtain ⟨i1, i2, i3, i4, i5, i6⟩ := idxN_spec gf
      have p12 := perN_12 gf
      have p1 := (perN_bd gf).1
      have CI := hid (fun (A : Option Addr) c W (r : RdA W A xs) => by have := iIndexOf_c A c xs W r hx; rw [i1] at this; exact this)
      have CP := hid (fun (A : Option Addr) c W (r : RdA W A xs) => by have := iPeriodOf_c A c xs W r hx; rw [periodV_yes gf] at this; exact this)
      have CS := hid (fun (A : Option Addr) c W (r : RdA W A xs) => by have := sPeriodOf_c A c xs W r hx; rw [periodV_yes gf] at this; exact this)
      have CL := hid (fun (A : Option Addr) c W (r : RdA W A xs) => iLoopsOf_c A c xs W r hx)
      have CW := hid (power_at gf)
      have HL := hid (fun m => (show (pw xs m).length ≤ 1048577 by rw [pw_len]; omega))
      have HT := hid (show pw xs (idxN xs) = pw xs (idxN xs + perN xs) from (pw_eq_iff' gf i2 (by omega)).2 ⟨Nat.le_refl _, by rw [show idxN xs + perN xs - idxN xs = perN xs by omega]; exact Nat.dvd_refl _⟩)
      have HN := hid (show ∀ q, 0 < q → q < perN xs → pw xs (idxN xs) ≠ pw xs (idxN xs + q) from fun q h1 hq e => by
        have := ((pw_eq_iff' gf i2 (by omega)).1 e).2
        have := Nat.le_of_dvd (by omega) this
        omega)
      have h7 := gf.1.2
      have HR := hid (show ∀ j, j < (loopsLL xs).length → 1 ≤ (gl (loopsLL xs) j).length ∧ (gl (loopsLL xs) j).length ≤ 7 ∧ perN xs % (gl (loopsLL xs) j).length = 0 from fun j hj => ⟨(loops_long gf hj).1, by have := (loops_long gf hj).2; omega, Nat.mod_eq_zero_of_dvd ((per_dvd_iff _ _ _).1 (Nat.dvd_refl _) j hj)⟩)
      have hle := loopsLL_len xs h7
      clear gf i1 i4 i5 i6 hf
      generalize idxN xs = I at *
      generalize perN xs = P at *
      generalize loopsLL xs = L at *
      go_wp2_with fail
      refine (CP.out A c _ of.rd).mono ?_
      rintro e w21 ⟨rfl, b⟩
      have B21 := stepB B1 B1.size b
      replace of := of.below b
      clear b
      go_wp2_with fail
      refine (CS.out A c _ of.rd).mono ?_
      rintro e w22 ⟨rfl, b⟩
      have B22 := stepB B21 B21.size b
      replace of := of.below b
      clear b
      go_wp2_with fail
      refine (CI.out A c _ of.rd).mono ?_
      rintro e w23 ⟨rfl, b⟩
      have B23 := stepB B22 B22.size b
      replace of := of.below b
      clear b
      go_wp2_with fail
      go_loopw [6] (fun i wr => ∃ K : Nat, 1 ≤ K ∧ K ≤ P ∧ i = .int .i64 K ∧ Own w.heap.size wr (.slice A xs.length c) xs ∧ Below w.heap.size w wr) (fun i _ => P - (intOf i).toNat)
      case atStart => exact ⟨1, by omega, by omega, rfl, of, B23⟩
      case round =>
        clear of B21 B22 B23
        obtain ⟨K, hK1, hK, rfl, of, hb⟩ := hrel
        by_cases hlt : K < P
        · go_wp2_with fail
          refine (CW.out _ I rfl (by omega) A c _ of.rd).mono ?_
          rintro e w24 ⟨Aa, ca, rfl, oa, b⟩
          have B24 := stepB hb hb.size b
          replace of := of.below b
          clear b
          go_wp2_with fail
          refine (CW.out _ (I + K) (by omega) (by omega) A c _ of.rd).mono ?_
          rintro e w25 ⟨Ab, cb, rfl, ob, b⟩
          have B25 := stepB B24 B24.size b
          replace of := of.below b
          replace oa := oa.below b
          clear b
          go_wp2_with fail
          refine (sameInts_f Aa Ab ca cb _ _ _ oa.rd ob.rd (HL.out _) (HL.out _) (HN.out K (by omega) hlt)).mono ?_
          rintro e w26 ⟨rfl, b⟩
          have B26 := stepB B25 B25.size b
          replace of := of.below b
          replace oa := oa.below b
          replace ob := ob.below b
          clear b
          go_wp2_with fail
          go_roundw
          case rel => exact ⟨K + 1, by omega, by omega, by go_num, of, B26⟩
          case measure => simp [intOf]; omega
        · obtain rfl : K = P := by omega
          go_wp2_with fail
          refine (CL.out A c _ of.rd).mono ?_
          rintro e w24 ⟨D, d, rfl, orr, b⟩
          have B24 := stepB hb hb.size b
          replace of := of.below b
          clear b
          have HO := hid orr
          clear orr
          go_wp2_with fail
          go_loop [8] (fun i => ∃ j : Nat, j ≤ L.length ∧ i = .int .i64 j) (fun i => L.length - (intOf i).toNat)
          case atStart => exact ⟨0, Nat.zero_le _, rfl⟩
          case round =>
            obtain ⟨j, hj, rfl⟩ := hrel
            by_cases hlj : j < L.length
            · obtain ⟨g, E, e0, rfl, hg, hc, -⟩ := HO.out.at_ hlj
              obtain ⟨z1, z7, zm⟩ := HR.out j hlj
              have e1 : (K : Int) % ((gl L j).length : Int) = 0 := by rw [← Int.natCast_emod, zm]; rfl
              clear zm
              generalize (gl L j).length = Z at *
              have q1 : ((Z : Int) == 0) = false := by simp; omega
              go_wp2_with fail
              go_round
              case rel => exact ⟨j + 1, by omega, by go_num⟩
              case measure => simp [intOf]; omega
            · obtain rfl : j = L.length := by omega
              go_wp2_with fail
              refine (CW.out _ I rfl (by omega) A c _ of.rd).mono ?_
              rintro e w25 ⟨Aa, ca, rfl, oa, b⟩
              have B25 := stepB B24 B24.size b
              replace of := of.below b
              clear b
              go_wp2_with fail
              refine (CW.out _ (I + K) (by omega) (by omega) A c _ of.rd).mono ?_
              rintro e w26 ⟨Ab, cb, rfl, ob, b⟩
              have B26 := stepB B25 B25.size b
              replace of := of.below b
              replace oa := oa.below b
              clear b
              go_wp2_with fail
              refine (sameInts_t Aa Ab ca cb _ _ _ oa.rd ob.rd (HL.out _) (HL.out _) HT.out).mono ?_
              rintro e w27 ⟨rfl, b⟩
              have B27 := stepB B26 B26.size b
              replace of := of.below b
              replace oa := oa.below b
              replace ob := ob.below b
              clear b
              go_wp2_with fail
              all_goals go_ret
              all_goals exact ⟨ret_bool (by first | rfl | (simp; omega)), B27⟩
    · have e1 : periodV xs = -1 := if_neg hf
      have CP := hid (fun (A : Option Addr) c W (r : RdA W A xs) => by have := iPeriodOf_c A c xs W r hx; rw [e1] at this; exact this)
      have CS := hid (fun (A : Option Addr) c W (r : RdA W A xs) => by have := sPeriodOf_c A c xs W r hx; rw [e1] at this; exact this)
      clear e1 hf
      go_wp2_with fail
      refine (CP.out A c _ of.rd).mono ?_
      rintro e w21 ⟨rfl, b⟩
      have B21 := stepB B1 B1.size b
      replace of := of.below b
      clear b
      go_wp2_with fail
      refine (CS.out A c _ of.rd).mono ?_
      rintro e w22 ⟨rfl, b⟩
      have B22 := stepB B21 B21.size b
      replace of := of.below b
      clear b
      clear of
      go_wp2_with fail
      refine (alive_c _).mono ?_
      rintro e w23 ⟨rfl, b⟩
      have B23 := stepB B22 B22.size b
      clear b
      go_wp2_with fail
      go_ret
      exact ⟨rfl, B23⟩

end Go.Proofs.Ytenmgiocbdabdaa
