/- The walks of the laws of the counts: FnChosenOf, FnPartsOf, FnTreesOf, FnMapsOf. -/
import Derived.Test.YtkongicjhdfkiaaA4
import Derived.Test.YtkongicjhdfkiaaD2
import Derived.Test.YtkongicjhdfkiaaM5
namespace Go.Proofs.Ytkongicjhdfkiaa
open Go.RowKit
set_option linter.unusedVariables false

/-! ### TreesOf -/
theorem trees_pow : ∀ t : Nat, t ≤ 7 → 1 ≤ t → onLoopsV t 1 = powI t (t - 1) := by decide +kernel
theorem onLoopsV_neg {t : Int} (h : onLoopsV t 1 < 0) : onLoopsV t 1 = -1 := by have := onLoopsV_bd t 1; omega
theorem onLoopsV_out {t : Int} (h : ¬ (1 ≤ t ∧ t ≤ 7)) : onLoopsV t 1 = -1 := by unfold onLoopsV; rw [if_neg (fun x => h x.1)]

theorem FnTreesOf_w (a : Option Addr) (len cap : Nat) (zs : List Int) (w : World) (h : RowIn .u8 w a len cap zs) :
    Calls Try.prog 15 #[.slice a len cap] w fun e w' => e = .returned (.bool true) ∧ Below w.heap.size w w' := by
  have hcap := h.cap
  unfold maxLen at hcap
  by_cases hbig : 1048576 < len
  · clear h
    go_enter Try.func15, Try.ntmps15
    go_wp2_with fail
    go_ret
    exact ⟨rfl, Below.refl _ _⟩
  · have hd := DrawTreesOf_c a len cap zs w h (by omega)
    clear h
    go_enter Try.func15, Try.ntmps15
    go_wp2_with fail
    refine hd.mono ?_
    rintro e w1 ⟨t, rfl, ht0, ht8, hb⟩
    go_wp2_with fail
    refine (iTreesOf_c _ _).mono ?_
    rintro e w2 ⟨rfl, hb2⟩
    have B2 := hb.trans (hb2.mono hb.size)
    clear hb hb2 hd
    go_wp2_with fail
    refine (sTreesOf_c _ _).mono ?_
    rintro e w2' ⟨rfl, rfl⟩
    by_cases hin : 1 ≤ t ∧ t ≤ 7
    · obtain ⟨T, rfl⟩ := Int.eq_ofNat_of_zero_le ht0
      have e1 := trees_pow T (by omega) (by omega)
      have b0 := powI_bd T (by omega) (T - 1) (by omega)
      rw [e1]
      have HP := hid (show ∀ k : Nat, k ≤ T - 1 → 0 ≤ powI T k ∧ powI T k ≤ 823543 from fun k hk => powI_bd T (by omega) k (by omega))
      clear e1
      have hT1 : 1 ≤ T := by omega
      have hT7 : T ≤ 7 := by omega
      clear ht0 ht8 hin
      generalize hV : powI (T : Int) (T - 1) = V at *
      have HV := hid hV
      clear hV
      go_wp2_with fail
      go_loop [5, 6] (fun p i => ∃ k : Nat, k ≤ T - 1 ∧ i = .int .i64 ((k : Int) + 1) ∧ p = .int .i64 (powI T k)) (fun _ i => T - (intOf i).toNat)
      case atStart => exact ⟨0, Nat.zero_le _, rfl, rfl⟩
      case round =>
        obtain ⟨k, hk, rfl, rfl⟩ := hrel
        by_cases hlt : k < T - 1
        · have hp : 0 ≤ powI T k * T ∧ powI T k * T ≤ 823543 := HP.out (k + 1) (by omega)
          have hlt' : k + 1 < T := by omega
          go_wp2_with fail
          go_round
          case rel => exact ⟨k + 1, by omega, by go_num, rfl⟩
          case measure => simp [intOf]; omega
        · obtain rfl : k = T - 1 := by omega
          have hge : ¬ (((T - 1 : Nat) : Int) + 1 < (T : Int)) := by omega
          rw [HV.out]
          go_wp2_with fail
          go_ret
          exact ⟨ret_bool (by simp), B2⟩
    · rw [onLoopsV_out hin]
      clear hin
      go_wp2_with fail
      refine (alive_c _).mono ?_
      rintro e w3 ⟨rfl, hb3⟩
      have B3 := B2.trans (hb3.mono B2.size)
      go_wp2_with fail
      go_ret
      exact ⟨rfl, B3⟩

/-! ### MapsOf -/
def loopsT (t : Int) : Nat → Int
  | 0 => 0
  | k + 1 => loopsT t k + onLoopsV t ((k : Int) + 1)
def imagesT (t : Int) : Nat → Int
  | 0 => 0
  | k + 1 => imagesT t k + imagesV t ((k : Int) + 1)
theorem maps_sum : ∀ t : Nat, t ≤ 7 → 1 ≤ t → loopsT t t = mapsV t ∧ imagesT t t = mapsV t := by decide +kernel
theorem maps_bd : ∀ t : Nat, t ≤ 7 → 1 ≤ t → 0 ≤ mapsV t ∧ mapsV t ≤ 823543 := by decide +kernel
theorem loopsT_bd : ∀ t : Nat, t ≤ 7 → ∀ k : Nat, k ≤ t → 0 ≤ loopsT t k ∧ loopsT t k ≤ 1000000 ∧ 0 ≤ imagesT t k ∧ imagesT t k ≤ 1000000 := by decide +kernel
theorem mapsV_out {t : Int} (h : ¬ (1 ≤ t ∧ t ≤ 7)) : mapsV t = -1 := by unfold mapsV; rw [if_neg h]

theorem FnMapsOf_w (a : Option Addr) (len cap : Nat) (zs : List Int) (w : World) (h : RowIn .u8 w a len cap zs) :
    Calls Try.prog 16 #[.slice a len cap] w fun e w' => e = .returned (.bool true) ∧ Below w.heap.size w w' := by
  have hcap := h.cap
  unfold maxLen at hcap
  by_cases hbig : 1048576 < len
  · clear h
    go_enter Try.func16, Try.ntmps16
    go_wp2_with fail
    go_ret
    exact ⟨rfl, Below.refl _ _⟩
  · have hd := DrawMapsOf_c a len cap zs w h (by omega)
    clear h
    go_enter Try.func16, Try.ntmps16
    go_wp2_with fail
    refine hd.mono ?_
    rintro e w1 ⟨t, rfl, ht0, ht8, hb⟩
    go_wp2_with fail
    refine (iMapsOf_c _ _).mono ?_
    rintro e w2 ⟨rfl, hb2⟩
    have B2 := hb.trans (hb2.mono hb.size)
    clear hb hb2 hd
    go_wp2_with fail
    refine (sMapsOf_c _ _).mono ?_
    rintro e w2' ⟨rfl, rfl⟩
    by_cases hin : 1 ≤ t ∧ t ≤ 7
    · obtain ⟨T, rfl⟩ := Int.eq_ofNat_of_zero_le ht0
      have e1 := hid (maps_sum T (by omega) (by omega))
      have b0 := maps_bd T (by omega) (by omega)
      have hT1 : 1 ≤ T := by omega
      have hT7 : T ≤ 7 := by omega
      clear ht0 ht8 hin
      generalize mapsV (T : Int) = V at *
      go_wp2_with fail
      go_loopw [5, 6, 7] (fun p q i wr => ∃ k : Nat, k ≤ T ∧ i = .int .i64 ((k : Int) + 1) ∧ p = .int .i64 (loopsT T k) ∧ q = .int .i64 (imagesT T k) ∧ Below w.heap.size w wr) (fun _ _ i _ => T + 1 - (intOf i).toNat)
      case atStart => exact ⟨0, Nat.zero_le _, rfl, rfl, rfl, B2⟩
      case round =>
        clear B2
        obtain ⟨k, hk, rfl, rfl, rfl, hb⟩ := hrel
        by_cases hlt : k < T
        · obtain ⟨c1, c2, c3, c4⟩ := loopsT_bd T hT7 k (by omega)
          obtain ⟨d1, d2, d3, d4⟩ := loopsT_bd T hT7 (k + 1) (by omega)
          have s1 := hid (show loopsT T (k + 1) = loopsT T k + onLoopsV T ((k : Int) + 1) from rfl)
          have s2 := hid (show imagesT T (k + 1) = imagesT T k + imagesV T ((k : Int) + 1) from rfl)
          rw [s1.out] at d1 d2
          rw [s2.out] at d3 d4
          have k1 := iOnLoopsOf_c T ((k : Int) + 1) wr
          have k2 := fun W => iImagesOf_c T ((k : Int) + 1) W
          generalize onLoopsV T ((k : Int) + 1) = X at *
          generalize imagesV T ((k : Int) + 1) = Y at *
          generalize loopsT T k = P at *
          generalize imagesT T k = Q at *
          have K2 := hid k2
          clear k2
          go_wp2_with fail
          refine k1.mono ?_
          rintro e w3 ⟨rfl, hb3⟩
          go_wp2_with fail
          refine (K2.out w3).mono ?_
          rintro e w4 ⟨rfl, hb4⟩
          have hB := hb.trans ((hb3.trans (hb4.mono hb3.size)).mono hb.size)
          go_wp2_with fail
          go_roundw
          case rel => exact ⟨k + 1, by omega, by go_num, by rw [s1.out], by rw [s2.out], hB⟩
          case measure => simp [intOf]; omega
        · obtain rfl : k = T := by omega
          rw [e1.out.1, e1.out.2]
          go_wp2_with fail
          go_ret
          exact ⟨ret_bool (by simp), hb⟩
    · rw [mapsV_out hin]
      clear hin
      go_wp2_with fail
      refine (alive_c _).mono ?_
      rintro e w3 ⟨rfl, hb3⟩
      have B3 := B2.trans (hb3.mono B2.size)
      go_wp2_with fail
      go_ret
      exact ⟨rfl, B3⟩

/-! ### ChosenOf -/
def chT (t : Int) : Nat → Int
  | 0 => 0
  | k + 1 => chT t k + chosenV t (k : Int)
theorem chT_bd : ∀ t : Nat, t ≤ 7 → ∀ k : Nat, k ≤ 8 → 0 ≤ chT t k ∧ chT t k ≤ 128 := by decide +kernel
theorem ch_two : ∀ t : Nat, t ≤ 7 → (chT t 8 == wrap64 ((2 : Int) ^ t)) = true := by decide +kernel
theorem ch_sym : ∀ t : Nat, t ≤ 7 → ∀ c : Nat, c ≤ 7 → c ≤ t → chosenV t ((t : Int) - c) = chosenV t c := by decide +kernel
theorem ch_pos : ∀ t : Nat, t ≤ 7 → ∀ c : Nat, c ≤ 7 → 0 ≤ chosenV t c ∧ chosenV t c ≤ 35 := by decide +kernel
theorem chosenV_out {t c : Int} (h : ¬ ((0 ≤ t ∧ t ≤ 7) ∧ (0 ≤ c ∧ c ≤ 7))) : chosenV t c = -1 := by unfold chosenV; rw [if_neg h]

set_option maxHeartbeats 1000000 in
theorem FnChosenOf_w (a : Option Addr) (len cap : Nat) (zs : List Int) (w : World) (h : RowIn .u8 w a len cap zs) :
    Calls Try.prog 12 #[.slice a len cap] w fun e w' => e = .returned (.bool true) ∧ Below w.heap.size w w' := by
  have hcap := h.cap
  unfold maxLen at hcap
  by_cases hbig : 1048576 < len
  · clear h
    go_enter Try.func12, Try.ntmps12
    go_wp2_with fail
    go_ret
    exact ⟨rfl, Below.refl _ _⟩
  · have hd := DrawChosenOf_c a len cap zs w h (by omega)
    clear h
    go_enter Try.func12, Try.ntmps12
    go_wp2_with fail
    refine hd.mono ?_
    rintro e w1 ⟨t, c, rfl, ht0, ht8, hc0, hc8, hb⟩
    go_wp2_with fail
    refine (iChosenOf_c _ _ _).mono ?_
    rintro e w2 ⟨rfl, hb2⟩
    have B2 := hb.trans (hb2.mono hb.size)
    clear hb hb2 hd
    go_wp2_with fail
    refine (sChosenOf_c _ _ _).mono ?_
    rintro e w2' ⟨rfl, rfl⟩
    by_cases hin : (0 ≤ t ∧ t ≤ 7) ∧ (0 ≤ c ∧ c ≤ 7)
    · obtain ⟨T, rfl⟩ := Int.eq_ofNat_of_zero_le hin.1.1
      obtain ⟨C, rfl⟩ := Int.eq_ofNat_of_zero_le hc0
      have hT7 : T ≤ 7 := by omega
      have hC7 : C ≤ 7 := by omega
      have b0 := ch_pos T hT7 C hC7
      have HS := hid (ch_sym T hT7 C hC7)
      clear ht0 ht8 hc0 hc8 hin
      generalize chosenV (T : Int) (C : Int) = V at *
      go_wp2_with fail
      go_loopw [6, 7] (fun p i wr => ∃ k : Nat, k ≤ 8 ∧ i = .int .i64 (k : Int) ∧ p = .int .i64 (chT T k) ∧ Below w.heap.size w wr) (fun _ i _ => 8 - (intOf i).toNat)
      case atStart => exact ⟨0, Nat.zero_le _, rfl, rfl, B2⟩
      case round =>
        clear B2
        obtain ⟨k, hk, rfl, rfl, hb⟩ := hrel
        by_cases hlt : k < 8
        · obtain ⟨c1, c2⟩ := chT_bd T hT7 k (by omega)
          have b1 := ch_pos T hT7 k (by omega)
          have s1 := hid (show chT T (k + 1) = chT T k + chosenV T (k : Int) from rfl)
          have k1 := iChosenOf_c T (k : Int) wr
          generalize chosenV T (k : Int) = X at *
          generalize chT T k = P at *
          go_wp2_with fail
          refine k1.mono ?_
          rintro e w3 ⟨rfl, hb3⟩
          have hB := hb.trans (hb3.mono hb.size)
          go_wp2_with fail
          go_roundw
          case rel => exact ⟨k + 1, by omega, by go_num, by rw [s1.out], hB⟩
          case measure => simp [intOf]; omega
        · obtain rfl : k = 8 := by omega
          have hE := ch_two T hT7
          by_cases hct : (T : Int) < (C : Int)
          · go_wp2_with fail
            go_ret
            exact ⟨rfl, hb⟩
          · have k1 := fun W => iChosenOf_c T ((T : Int) - (C : Int)) W
            have e2 := HS.out (by omega)
            rw [e2] at k1
            have K1 := hid k1
            clear k1 e2
            go_wp2_with fail
            refine (K1.out _).mono ?_
            rintro e w3 ⟨rfl, hb3⟩
            have hB := hb.trans (hb3.mono hb.size)
            go_wp2_with fail
            go_ret
            exact ⟨ret_bool (by simp), hB⟩
    · rw [chosenV_out hin]
      clear hin
      go_wp2_with fail
      refine (alive_c _).mono ?_
      rintro e w3 ⟨rfl, hb3⟩
      have B3 := B2.trans (hb3.mono B2.size)
      go_wp2_with fail
      go_ret
      exact ⟨rfl, B3⟩

/-! ### PartsOf -/
theorem pt_same : ∀ t : Nat, t ≤ 7 → partsOf t t = 1 := by decide +kernel
theorem pt_one : ∀ t : Nat, t ≤ 7 → 1 ≤ t → partsOf t 1 = 1 := by decide +kernel
theorem pt_pairs : ∀ t : Nat, t ≤ 7 → 1 ≤ t → partsOf t ((t : Int) - 1) = chosenV t 2 := by decide +kernel
theorem pt_pos : ∀ t : Nat, t ≤ 7 → ∀ c : Nat, c ≤ 7 → 0 ≤ partsOf t c := by decide +kernel
theorem partsOf_out {t c : Int} (h : ¬ ((0 ≤ t ∧ t ≤ 7) ∧ (0 ≤ c ∧ c ≤ 7))) : partsOf t c = -1 := by unfold partsOf; rw [if_neg h]

set_option maxHeartbeats 1000000 in
theorem FnPartsOf_w (a : Option Addr) (len cap : Nat) (zs : List Int) (w : World) (h : RowIn .u8 w a len cap zs) :
    Calls Try.prog 14 #[.slice a len cap] w fun e w' => e = .returned (.bool true) ∧ Below w.heap.size w w' := by
  have hcap := h.cap
  unfold maxLen at hcap
  by_cases hbig : 1048576 < len
  · clear h
    go_enter Try.func14, Try.ntmps14
    go_wp2_with fail
    go_ret
    exact ⟨rfl, Below.refl _ _⟩
  · have hd := DrawPartsOf_c a len cap zs w h (by omega)
    clear h
    go_enter Try.func14, Try.ntmps14
    go_wp2_with fail
    refine hd.mono ?_
    rintro e w1 ⟨t, c, rfl, ht0, ht8, hc0, hc8, B1⟩
    clear hd
    go_wp2_with fail
    refine (iPartsOf_c _ _ _).mono ?_
    rintro e w1' ⟨rfl, rfl⟩
    go_wp2_with fail
    refine (sPartsOf_c _ _ _).mono ?_
    rintro e w1' ⟨rfl, rfl⟩
    by_cases hin : (0 ≤ t ∧ t ≤ 7) ∧ (0 ≤ c ∧ c ≤ 7)
    · obtain ⟨T, rfl⟩ := Int.eq_ofNat_of_zero_le hin.1.1
      obtain ⟨C, rfl⟩ := Int.eq_ofNat_of_zero_le hc0
      have hT7 : T ≤ 7 := by omega
      have hC7 : C ≤ 7 := by omega
      have b0 := pt_pos T hT7 C hC7
      have k1 := iPartsOf_c T T w1
      rw [pt_same T hT7] at k1
      clear ht0 ht8 hc0 hc8 hin
      generalize partsOf (T : Int) (C : Int) = V at *
      by_cases h1 : 1 ≤ T
      · have k2 := iPartsOf_c T 1 w1
        rw [pt_one T hT7 h1] at k2
        have k3 := iPartsOf_c T ((T : Int) - 1) w1
        rw [pt_pairs T hT7 h1] at k3
        have k4 := iChosenOf_c T 2 w1
        generalize chosenV (T : Int) 2 = X at *
        have K1 := hid k1
        have K2 := hid k2
        have K3 := hid k3
        have K4 := hid k4
        clear k1 k2 k3 k4
        have g1 : decide ((T : Int) < 1) = false := by simp; omega
        go_wp2_with fail
        refine K1.out.mono ?_
        rintro e w1' ⟨rfl, rfl⟩
        go_wp2_with fail
        refine K2.out.mono ?_
        rintro e w1' ⟨rfl, rfl⟩
        go_wp2_with fail
        refine K3.out.mono ?_
        rintro e w1' ⟨rfl, rfl⟩
        go_wp2_with fail
        refine K4.out.mono ?_
        rintro e w2 ⟨rfl, hb2⟩
        have B2 := B1.trans (hb2.mono B1.size)
        go_wp2_with fail
        go_ret
        exact ⟨ret_bool (by simp), B2⟩
      · obtain rfl : T = 0 := by omega
        have K1 := hid k1
        clear k1 h1
        go_wp2_with fail
        refine K1.out.mono ?_
        rintro e w1' ⟨rfl, rfl⟩
        go_wp2_with fail
        go_ret
        exact ⟨rfl, B1⟩
    · rw [partsOf_out hin]
      clear hin
      go_wp2_with fail
      refine (alive_c _).mono ?_
      rintro e w3 ⟨rfl, hb3⟩
      have B3 := B1.trans (hb3.mono B1.size)
      go_wp2_with fail
      go_ret
      exact ⟨rfl, B3⟩

end Go.Proofs.Ytkongicjhdfkiaa
