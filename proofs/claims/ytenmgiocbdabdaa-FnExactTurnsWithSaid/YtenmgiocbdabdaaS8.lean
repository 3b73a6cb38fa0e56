/- Contracts of chapter 6: how many turns go with a turn. -/
import Derived.Test.YtenmgiocbdabdaaS3
namespace Go.Proofs.Ytenmgiocbdabdaa
open Go.RowKit
set_option linter.unusedVariables false

theorem turnsV_yes {f : List Int} (h : turnedB f = true) : turnsV f = twI (kindsL f) f.length := if_pos h
theorem turnsV_no {f : List Int} (h : turnedB f = false) : turnsV f = -1 := if_neg (by rw [h]; simp)
theorem tw_step (K : List Int) (k c : Nat) : twI K k * facL ((k : Int) + 1) (c + 1) = twI K k * facL ((k : Int) + 1) c * (((c : Int) + 1) * ((k : Int) + 1)) := by
  rw [facL, Int.mul_assoc]

set_option maxHeartbeats 1000000 in
theorem iTurnsWith_c (A : Option Addr) (c : Nat) (f : List Int) (w : World) (hR : RdA w A f) (hn : f.length ≤ 1048577) :
    Calls Try.prog 83 #[.slice A f.length c] w fun e w' => e = .returned (.int .i64 (turnsV f)) ∧ Below w.heap.size w w' := by
  have c1 := iTurnedOf_c A c f w hR hn
  by_cases ht : turnedB f = true
  · have HT := hid (turnsV_yes ht)
    have hf := (turnedB_iff.1 ht).1
    have h7 := hf.1.2
    obtain ⟨hkl, hs, hw⟩ := kinds_sums hf
    have hon := onN_le f
    have hlen := loopsLL_len f h7
    have HK := hid (fun p => kinds_range hf p)
    have HM := hid (fun (k : Nat) (hk : k < f.length) (c : Nat) (hc : c ≤ (nth (kindsL f) k).toNat) => tw_mid (xs := kindsL f) (fun p => (HK.out p).1) (n := f.length) (by omega) (by omega) hk hc)
    rw [ht] at c1
    have C2 := hid (fun W (hb : Below w.heap.size w W) => iLoopKinds_c A c f W (hR.below hb) hn)
    clear ht hR hf hs hw hon hlen
    generalize kindsL f = K at *
    rw [← hkl] at HT HM h7
    clear hkl
    go_enter Try.func83, Try.ntmps83
    go_wp2_with fail
    refine c1.mono ?_; rintro e w2 ⟨A2, c2, rfl, -, b2, -⟩
    have k2 := hid (C2.out w2 b2)
    clear C2 c1
    go_wp2_with fail
    refine k2.out.mono ?_; rintro e w3 ⟨A3, c3, rfl, o3, b3⟩
    have b3' := b2.trans (b3.mono b2.size)
    have HR := hid o3.rd
    clear k2 b2 b3 o3
    go_wp2_with fail
    go_loop [5, 20] (fun p i => ∃ k : Nat, k ≤ K.length ∧ i = .int .i64 k ∧ p = .int .i64 (twI K k)) (fun _ i => K.length - (intOf i).toNat)
    case atStart => exact ⟨0, Nat.zero_le _, rfl, rfl⟩
    case round =>
      obtain ⟨k, hk, rfl, rfl⟩ := hrel
      by_cases hlt : k < K.length
      · obtain ⟨ad, rfl, hc⟩ := HR.out k hlt
        obtain ⟨hx0, hx7⟩ := HK.out k
        obtain ⟨C, hC⟩ := Int.eq_ofNat_of_zero_le hx0
        have HM' := hid (fun c (h : c ≤ C) => HM.out k hlt c (by rw [hC]; exact h))
        have HE := hid (show twI K (k + 1) = twI K k * facL ((k : Int) + 1) C by rw [twI, hC]; rfl)
        rw [hC] at hc hx0 hx7
        clear hC
        go_wp2_with fail
        go_loop [5, 9] (fun p i => ∃ c : Nat, c ≤ C ∧ i = .int .i64 ((c : Int) + 1) ∧ p = .int .i64 (twI K k * facL ((k : Int) + 1) c)) (fun _ i => C + 1 - (intOf i).toNat)
        case atStart => exact ⟨0, Nat.zero_le _, rfl, by simp [facL]⟩
        case round =>
          obtain ⟨c, hcC, rfl, rfl⟩ := hrel
          by_cases hlc : c < C
          · obtain ⟨m0, m1⟩ := HM'.out c (by omega)
            obtain ⟨m2, m3⟩ := HM'.out (c + 1) (by omega)
            have HS := hid (tw_step K k c)
            rw [HS.out] at m2 m3
            have n0 : 0 ≤ ((c : Int) + 1) * ((k : Int) + 1) := Int.mul_nonneg (by omega) (by omega)
            have n1 : ((c : Int) + 1) * ((k : Int) + 1) ≤ 7 * 7 := Int.mul_le_mul (by omega) (by omega) (by omega) (by omega)
            generalize twI K k * facL ((k : Int) + 1) c = P at *
            go_wp2_with fail
            go_round
            case rel => exact ⟨c + 1, by omega, by go_num, by rw [HS.out]⟩
            case measure => simp [intOf]; omega
          · obtain rfl : c = C := by omega
            rw [← HE.out]
            have q1 : decide ((c : Int) + 1 ≤ (c : Int)) = false := decide_eq_false (by omega)
            go_wp2_with fail
            go_round
            case rel => exact ⟨k + 1, by omega, by go_num, rfl⟩
            case measure => simp [intOf]; omega
      · obtain rfl : k = K.length := by omega
        rw [← HT.out]
        go_wp2_with fail
        go_ret
        exact ⟨rfl, b3'⟩
  · have ht' : turnedB f = false := by simpa using ht
    have HT := hid (turnsV_no ht')
    rw [ht'] at c1
    clear ht ht' hR
    go_enter Try.func83, Try.ntmps83
    go_wp2_with fail
    refine c1.mono ?_; rintro e w2 ⟨A2, c2, rfl, -, b2, -⟩
    clear c1
    go_wp2_with fail
    go_ret
    exact ⟨ret_int HT.out.symm, b2⟩

set_option maxHeartbeats 1000000 in
theorem sTurnsWith_c (A : Option Addr) (c : Nat) (f : List Int) (w : World) (hR : RdA w A f) (hn : f.length ≤ 1048577) :
    Calls Try.prog 82 #[.slice A f.length c] w fun e w' => e = .returned (.int .i64 (turnsV f)) ∧ Below w.heap.size w w' := by
  have c1 := sTurnedOf_c A c f w hR hn
  by_cases ht : turnedB f = true
  · have HT := hid (turnsV_yes ht)
    have hf := (turnedB_iff.1 ht).1
    have h7 := hf.1.2
    obtain ⟨hkl, hs, hw⟩ := kinds_sums hf
    have hon := onN_le f
    have hlen := loopsLL_len f h7
    have HK := hid (fun p => kinds_range hf p)
    have HM := hid (fun (k : Nat) (hk : k < f.length) (c : Nat) (hc : c ≤ (nth (kindsL f) k).toNat) => tw_mid (xs := kindsL f) (fun p => (HK.out p).1) (n := f.length) (by omega) (by omega) hk hc)
    rw [ht] at c1
    have C2 := hid (fun W (hb : Below w.heap.size w W) => sLoopKinds_c A c f W (hR.below hb) hn)
    clear ht hR hf hs hw hon hlen
    generalize kindsL f = K at *
    rw [← hkl] at HT HM h7
    clear hkl
    go_enter Try.func82, Try.ntmps82
    go_wp2_with fail
    refine c1.mono ?_; rintro e w2 ⟨A2, c2, rfl, -, b2⟩
    have k2 := hid (C2.out w2 b2)
    clear C2 c1
    go_wp2_with fail
    refine k2.out.mono ?_; rintro e w3 ⟨A3, c3, rfl, o3, b3⟩
    have b3' := b2.trans (b3.mono b2.size)
    have HR := hid o3.rd
    clear k2 b2 b3 o3
    go_wp2_with fail
    go_loop [5, 7] (fun p i => ∃ k : Nat, k ≤ K.length ∧ i = .int .i64 k ∧ p = .int .i64 (twI K k)) (fun _ i => K.length - (intOf i).toNat)
    case atStart => exact ⟨0, Nat.zero_le _, rfl, rfl⟩
    case round =>
      obtain ⟨k, hk, rfl, rfl⟩ := hrel
      by_cases hlt : k < K.length
      · obtain ⟨ad, rfl, hc⟩ := HR.out k hlt
        obtain ⟨hx0, hx7⟩ := HK.out k
        obtain ⟨C, hC⟩ := Int.eq_ofNat_of_zero_le hx0
        have HM' := hid (fun c (h : c ≤ C) => HM.out k hlt c (by rw [hC]; exact h))
        have HE := hid (show twI K (k + 1) = twI K k * facL ((k : Int) + 1) C by rw [twI, hC]; rfl)
        rw [hC] at hc hx0 hx7
        clear hC
        go_wp2_with fail
        go_loop [5, 8] (fun p i => ∃ c : Nat, c ≤ C ∧ i = .int .i64 ((c : Int) + 1) ∧ p = .int .i64 (twI K k * facL ((k : Int) + 1) c)) (fun _ i => C + 1 - (intOf i).toNat)
        case atStart => exact ⟨0, Nat.zero_le _, rfl, by simp [facL]⟩
        case round =>
          obtain ⟨c, hcC, rfl, rfl⟩ := hrel
          by_cases hlc : c < C
          · obtain ⟨m0, m1⟩ := HM'.out c (by omega)
            obtain ⟨m2, m3⟩ := HM'.out (c + 1) (by omega)
            have HS := hid (show twI K k * facL ((k : Int) + 1) (c + 1) = twI K k * facL ((k : Int) + 1) c * ((c : Int) + 1) * ((k : Int) + 1) by rw [tw_step, Int.mul_assoc (twI K k * facL ((k : Int) + 1) c)])
            rw [HS.out] at m2 m3
            generalize twI K k * facL ((k : Int) + 1) c = P at *
            have n0 : 0 ≤ P * ((c : Int) + 1) := Int.mul_nonneg m0 (by omega)
            have n1 : P * ((c : Int) + 1) ≤ 823543 * 7 := Int.mul_le_mul m1 (by omega) (by omega) (by omega)
            go_wp2_with fail
            go_round
            case rel => exact ⟨c + 1, by omega, by go_num, by rw [HS.out]⟩
            case measure => simp [intOf]; omega
          · obtain rfl : c = C := by omega
            rw [← HE.out]
            have q1 : decide ((c : Int) + 1 ≤ (c : Int)) = false := decide_eq_false (by omega)
            go_wp2_with fail
            go_round
            case rel => exact ⟨k + 1, by omega, by go_num, rfl⟩
            case measure => simp [intOf]; omega
      · obtain rfl : k = K.length := by omega
        rw [← HT.out]
        go_wp2_with fail
        go_ret
        exact ⟨rfl, b3'⟩
  · have ht' : turnedB f = false := by simpa using ht
    have HT := hid (turnsV_no ht')
    rw [ht'] at c1
    clear ht ht' hR
    go_enter Try.func82, Try.ntmps82
    go_wp2_with fail
    refine c1.mono ?_; rintro e w2 ⟨A2, c2, rfl, -, b2⟩
    clear c1
    go_wp2_with fail
    go_ret
    exact ⟨ret_int HT.out.symm, b2⟩

end Go.Proofs.Ytenmgiocbdabdaa
