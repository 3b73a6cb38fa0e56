/- The walk of the law FnLoopKinds. -/
import Derived.Test.YtenmgiocbdabdaaS13
import Derived.Test.YtenmgiocbdabdaaM4
import Derived.Test.YtenmgiocbdabdaaM5
namespace Go.Proofs.Ytenmgiocbdabdaa
open Go.RowKit
set_option linter.unusedVariables false

set_option maxHeartbeats 1000000 in
theorem FnLoopKinds_w (a : Option Addr) (len cap : Nat) (zs : List Int) (w : World) (h : RowIn .u8 w a len cap zs) :
    Calls Try.prog 14 #[.slice a len cap] w fun e w' => e = .returned (.bool true) ∧ Below w.heap.size w w' := by
  have hcap := h.cap
  unfold maxLen at hcap
  by_cases hbig : 1048576 < len
  · clear h
    go_enter Try.func14, Try.ntmps14
    go_wp2_with fail
    go_ret
    exact ⟨rfl, Below.refl _ _⟩
  · have hd := DrawLoopKinds_c a len cap zs w h (by omega)
    clear h
    go_enter Try.func14, Try.ntmps14
    go_wp2_with fail
    refine hd.mono ?_
    rintro e w1 ⟨xs, A, c, hx8, rfl, of, B1⟩
    clear hd
    have hx : xs.length ≤ 1048577 := by omega
    by_cases hf : mapOkB xs = true
    · have gf := good_of hf
      have h1 := gf.1.1
      have h7 := gf.1.2
      obtain ⟨hkl, hs, hw⟩ := kinds_sums gf
      have hk0 := fun p => (kinds_range gf p).1
      have hon := onN_le xs
      have hle := loopsLL_len xs h7
      have HKL := hid (show (kindsL xs).length ≤ 1048577 by omega)
      have HS := hid (fun k (hk : k ≤ xs.length) => (show 0 ≤ sumZ (kindsL xs) k ∧ sumZ (kindsL xs) k ≤ 7 from ⟨sumZ_nonneg hk0 k, by have := sumZ_mono hk0 k xs.length hk; omega⟩))
      have HW := hid (fun k (hk : k ≤ xs.length) => (show 0 ≤ wsumZ (kindsL xs) k ∧ wsumZ (kindsL xs) k ≤ 7 from ⟨by have := wsumZ_mono hk0 0 k (by omega); simpa [wsumZ] using this, by have := wsumZ_mono hk0 k xs.length hk; omega⟩))
      have HM := hid (fun k (hk : k < xs.length) => (show 0 ≤ ((k : Int) + 1) * nth (kindsL xs) k ∧ ((k : Int) + 1) * nth (kindsL xs) k ≤ 7 from ⟨Int.mul_nonneg (by omega) (hk0 k), by have := (wsumZ_ge hk0 k xs.length hk).1; omega⟩))
      have HX := hid (fun p => kinds_range gf p)
      have CK := hid (fun (A : Option Addr) c W (r : RdA W A xs) => iLoopKinds_c A c xs W r hx)
      have CS := hid (fun (A : Option Addr) c W (r : RdA W A xs) => sLoopKinds_c A c xs W r hx)
      have CL := hid (fun (A : Option Addr) c W (r : RdA W A xs) => iLoopsOf_c A c xs W r hx)
      have CO := hid (fun k (hk : k < xs.length) (A : Option Addr) c W (r : RdA W A xs) => by have := iOnLoop_c A c xs (k : Int) W r hx; rw [tailV_yes (th_of gf hk)] at this; exact this)
      have HE1 := hid hs
      have HE2 := hid (show wsumZ (kindsL xs) xs.length = (onC xs xs.length : Int) from hw)
      have HOC := hid (onC_le xs)
      have HKE := hid hkl
      have hK1 : 1 ≤ (kindsL xs).length := by omega
      clear gf hs hw hk0 hon hf hkl
      generalize kindsL xs = K at *
      generalize loopsLL xs = L at *
      go_wp2_with fail
      refine (CK.out A c _ of.rd).mono ?_
      rintro e w21 ⟨Ak, ck, rfl, ok, b⟩
      have B21 := stepB B1 B1.size b
      replace of := of.below b
      clear b
      go_wp2_with fail
      refine (CS.out A c _ of.rd).mono ?_
      rintro e w22 ⟨As, cs, rfl, os, b⟩
      have B22 := stepB B21 B21.size b
      replace of := of.below b
      replace ok := ok.below b
      clear b
      go_wp2_with fail
      refine (sameInts_t Ak As ck cs K K _ ok.rd os.rd HKL.out HKL.out rfl).mono ?_
      rintro e w23 ⟨rfl, b⟩
      have B23 := stepB B22 B22.size b
      replace of := of.below b
      replace ok := ok.below b
      replace os := os.below b
      clear b
      clear os
      have q1 : ((K.length : Int) == 0) = false := by
        have h : (K.length : Int) ≠ 0 := by omega
        simpa using h
      go_wp2_with fail
      go_loopw [5, 6, 7, 8] (fun s t o i wr => ∃ k : Nat, k ≤ xs.length ∧ i = .int .i64 k ∧ s = .int .i64 (sumZ K k) ∧ t = .int .i64 (wsumZ K k) ∧ o = .int .i64 (onC xs k : Nat) ∧ Own w.heap.size wr (.slice A xs.length c) xs ∧ RdA wr Ak K ∧ Below w.heap.size w wr) (fun _ _ _ i _ => xs.length - (intOf i).toNat)
      case atStart => exact ⟨0, Nat.zero_le _, rfl, rfl, rfl, rfl, of, ok.rd, B23⟩
      case round =>
        clear of ok B21 B22 B23
        obtain ⟨k, hk, rfl, rfl, rfl, rfl, of, hrk, hb⟩ := hrel
        obtain ⟨s0, s7⟩ := HS.out k hk
        obtain ⟨v0, v7⟩ := HW.out k hk
        have hoc := HOC.out k
        by_cases hlt : k < xs.length
        · have hlK : k < K.length := by have := HKE.out; omega
          obtain ⟨ad, rfl, hc⟩ := hrk k hlK
          obtain ⟨m0, m7⟩ := HM.out k hlt
          obtain ⟨x0, x7⟩ := HX.out k
          have HN1 := hid (show sumZ K (k + 1) = sumZ K k + nth K k from rfl)
          have HN2 := hid (show wsumZ K (k + 1) = wsumZ K k + ((k : Int) + 1) * nth K k from rfl)
          have k1 := hid (CO.out k hlt A c wr of.rd)
          by_cases ht : tail xs k = 0
          · have HN3 := hid (onC_yes ht)
            rw [ht] at k1
            clear ht
            generalize onC xs k = O at *
            generalize sumZ K k = S at *
            generalize wsumZ K k = T at *
            generalize nth K k = X at *
            go_wp2_with fail
            refine k1.out.mono ?_
            rintro e w30 ⟨rfl, b⟩
            go_wp2_with fail
            go_roundw
            case rel => exact ⟨k + 1, by omega, by go_num, by rw [HN1.out], by rw [HN2.out], by rw [HN3.out]; go_num, of.below b, hrk.below b, stepB hb hb.size b⟩
            case measure => simp [intOf]; omega
          · have HN3 := hid (onC_no ht)
            have q2 : ((tail xs k : Int) == 0) = false := by simp; omega
            clear ht
            generalize tail xs k = U at *
            generalize onC xs k = O at *
            generalize sumZ K k = S at *
            generalize wsumZ K k = T at *
            generalize nth K k = X at *
            go_wp2_with fail
            refine k1.out.mono ?_
            rintro e w30 ⟨rfl, b⟩
            go_wp2_with fail
            go_roundw
            case rel => exact ⟨k + 1, by omega, by go_num, by rw [HN1.out], by rw [HN2.out], by rw [HN3.out], of.below b, hrk.below b, stepB hb hb.size b⟩
            case measure => simp [intOf]; omega
        · obtain rfl : k = xs.length := by omega
          rw [HE1.out, HE2.out]
          have hlk : K.length = xs.length := HKE.out
          generalize onC xs xs.length = O at *
          go_wp2_with fail
          refine (CL.out A c _ of.rd).mono ?_
          rintro e w31 ⟨D, d, rfl, -, b⟩
          have hb2 := stepB hb hb.size b
          go_wp2_with fail
          all_goals go_ret
          all_goals exact ⟨ret_bool (by first | rfl | (simp; omega)), hb2⟩
    · have e1 : kindsL xs = [] := if_neg hf
      have hf' : mapOkB xs = false := by simpa using hf
      have CK := hid (fun (A : Option Addr) c W (r : RdA W A xs) => by have := iLoopKinds_c A c xs W r hx; rw [e1] at this; exact this)
      have CS := hid (fun (A : Option Addr) c W (r : RdA W A xs) => by have := sLoopKinds_c A c xs W r hx; rw [e1] at this; exact this)
      have CM := hid (fun (A : Option Addr) c W (r : RdA W A xs) => by have := iMapOk_c A c xs W r hx; rw [hf'] at this; exact this)
      clear e1 hf hf'
      go_wp2_with fail
      refine (CK.out A c _ of.rd).mono ?_
      rintro e w21 ⟨Ak, ck, rfl, ok, b⟩
      have B21 := stepB B1 B1.size b
      replace of := of.below b
      clear b
      go_wp2_with fail
      refine (CS.out A c _ of.rd).mono ?_
      rintro e w22 ⟨As, cs, rfl, os, b⟩
      have B22 := stepB B21 B21.size b
      replace of := of.below b
      replace ok := ok.below b
      clear b
      go_wp2_with fail
      refine (sameInts_t Ak As ck cs [] [] _ ok.rd os.rd (by simp) (by simp) rfl).mono ?_
      rintro e w23 ⟨rfl, b⟩
      have B23 := stepB B22 B22.size b
      replace of := of.below b
      replace ok := ok.below b
      replace os := os.below b
      clear b
      go_wp2_with fail
      refine (CM.out A c _ of.rd).mono ?_
      rintro e w23' ⟨rfl, rfl⟩
      clear of
      clear ok
      clear os
      go_wp2_with fail
      refine (alive_c _).mono ?_
      rintro e w24 ⟨rfl, b⟩
      have B24 := stepB B23 B23.size b
      clear b
      go_wp2_with fail
      go_ret
      exact ⟨rfl, B24⟩

end Go.Proofs.Ytenmgiocbdabdaa
