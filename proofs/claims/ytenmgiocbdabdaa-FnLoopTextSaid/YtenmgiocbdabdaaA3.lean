/- Contracts: OnLoopsOf, TreesOf, ImagesOf, OneLotOf. -/
import Derived.Test.YtenmgiocbdabdaaA2
namespace Go.Proofs.Ytenmgiocbdabdaa
open Go.RowKit
set_option linter.unusedVariables false

theorem onl_bd : ∀ t : Nat, t ≤ 7 → ∀ o : Nat, o ≤ t → 0 ≤ fallI t o * o ∧ fallI t o * o ≤ 35280 ∧ 0 ≤ fallI t o * o * powI t (t - o) ∧ fallI t o * o * powI t (t - o) ≤ 10000000 := by decide +kernel
theorem onl_bd' (t o : Int) (h : 1 ≤ t ∧ t ≤ 7) (h2 : 1 ≤ o ∧ o ≤ t) :
    (0 ≤ fallI t o.toNat ∧ fallI t o.toNat ≤ 5040) ∧ (0 ≤ powI t (t - o).toNat ∧ powI t (t - o).toNat ≤ 823543) ∧
    0 ≤ fallI t o.toNat * o ∧ fallI t o.toNat * o ≤ 35280 ∧ 0 ≤ fallI t o.toNat * o * powI t (t - o).toNat ∧ fallI t o.toNat * o * powI t (t - o).toNat ≤ 10000000 := by
  have a := onl_bd t.toNat (by omega) o.toNat (by omega)
  have b := fallI_bd t.toNat (by omega) o.toNat (by omega)
  have c := powI_bd t.toNat (by omega) (t - o).toNat (by omega)
  rw [show ((t.toNat : Nat) : Int) = t by omega, show t.toNat - o.toNat = (t - o).toNat by omega, show ((o.toNat : Nat) : Int) = o by omega] at a
  rw [show ((t.toNat : Nat) : Int) = t by omega] at b c
  exact ⟨b, c, a⟩

def onLoopsV (t o : Int) : Int := if (1 ≤ t ∧ t ≤ 7) ∧ (1 ≤ o ∧ o ≤ t) then fallI t o.toNat * o * powI t (t - o).toNat / t else -1
theorem onLoopsV_in {t o : Int} (h : 1 ≤ t ∧ t ≤ 7) (h2 : 1 ≤ o ∧ o ≤ t) : onLoopsV t o = fallI t o.toNat * o * powI t (t - o).toNat / t := by unfold onLoopsV; rw [if_pos ⟨h, h2⟩]
theorem onLoopsV_bd (t o : Int) : -1 ≤ onLoopsV t o ∧ onLoopsV t o ≤ 10000000 := by
  unfold onLoopsV
  split
  · rename_i h
    obtain ⟨_, _, _, _, a, b⟩ := onl_bd' t o h.1 h.2
    generalize fallI t o.toNat * o * powI t (t - o).toNat = x at *
    refine ⟨?_, ?_⟩
    · have := Int.ediv_nonneg a (show 0 ≤ t by omega); omega
    · exact Int.le_trans (Int.ediv_le_self t a) b
  · decide

theorem iOnLoopsOf_c (t o : Int) (w : World) :
    Calls Try.prog 56 #[.int .i64 t, .int .i64 o] w fun e w' => e = .returned (.int .i64 (onLoopsV t o)) ∧ Below w.heap.size w w' := by
  by_cases h : 1 ≤ t ∧ t ≤ 7
  · by_cases h2 : 1 ≤ o ∧ o ≤ t
    · have H := hid (onLoopsV_in h h2)
      obtain ⟨⟨b1, b2⟩, ⟨b3, b4⟩, b5, b6, b7, b8⟩ := onl_bd' t o h h2
      have c1 := falling_c t o w (by omega) (by omega) (by omega) (by omega)
      have c2 := fun W => powered_c t (t - o) W (by omega) (by omega) (by omega) (by omega)
      have h0 : 0 < t := by omega
      generalize fallI t o.toNat = F at *
      generalize powI t (t - o).toNat = P at *
      go_enter Try.func56, Try.ntmps56
      go_wp2_with fail
      refine (within_t _ _ _ _ h).mono ?_; rintro e w' ⟨rfl, rfl⟩
      go_wp2_with fail
      refine (within_t _ _ _ _ h2).mono ?_; rintro e w' ⟨rfl, rfl⟩
      go_wp2_with fail
      refine c1.mono ?_; rintro e w1 ⟨rfl, hb1⟩
      go_wp2_with fail
      refine (c2 w1).mono ?_; rintro e w2 ⟨rfl, hb2⟩
      go_wp2_with fail
      go_ret
      exact ⟨ret_int H.out.symm, hb1.trans (hb2.mono hb1.size)⟩
    · have H := hid (show onLoopsV t o = -1 by unfold onLoopsV; rw [if_neg (fun x => h2 x.2)])
      go_enter Try.func56, Try.ntmps56
      go_wp2_with fail
      refine (within_t _ _ _ _ h).mono ?_; rintro e w' ⟨rfl, rfl⟩
      go_wp2_with fail
      refine (within_f _ _ _ _ h2).mono ?_; rintro e w' ⟨rfl, rfl⟩
      go_wp2_with fail
      go_ret
      exact ⟨ret_int H.out.symm, Below.refl _ _⟩
  · have H := hid (show onLoopsV t o = -1 by unfold onLoopsV; rw [if_neg (fun x => h x.1)])
    go_enter Try.func56, Try.ntmps56
    go_wp2_with fail
    refine (within_f _ _ _ _ h).mono ?_; rintro e w' ⟨rfl, rfl⟩
    go_wp2_with fail
    go_ret
    exact ⟨ret_int H.out.symm, Below.refl _ _⟩

theorem sOnLoopsOf_c (t o : Int) (w : World) :
    Calls Try.prog 57 #[.int .i64 t, .int .i64 o] w fun e w' => e = .returned (.int .i64 (onLoopsV t o)) ∧ w = w' := by
  by_cases h : 1 ≤ t ∧ t ≤ 7
  · by_cases h2 : 1 ≤ o ∧ o ≤ t
    · have H := hid (onLoopsV_in h h2)
      obtain ⟨⟨b1, b2⟩, ⟨b3, b4⟩, b5, b6, b7, b8⟩ := onl_bd' t o h h2
      have c2 := l7Power_c t (t - o) w (by omega) (by omega) (by omega) (by omega)
      have h0 : 0 < t := by omega
      generalize powI t (t - o).toNat = P at *
      obtain ⟨L, rfl⟩ := Int.eq_ofNat_of_zero_le (show 0 ≤ o by omega)
      rw [Int.toNat_natCast] at *
      go_enter Try.func57, Try.ntmps57
      go_wp2_with fail
      refine (l1In_t _ _ _ _ h).mono ?_; rintro e w' ⟨rfl, rfl⟩
      go_wp2_with fail
      refine (l1In_t _ _ _ _ h2).mono ?_; rintro e w' ⟨rfl, rfl⟩
      go_wp2_with fail
      go_loop [5, 6] (fun n i => ∃ k : Nat, k ≤ L ∧ i = .int .i64 k ∧ n = .int .i64 (fallI t k)) (fun _ i => L - (intOf i).toNat)
      case atStart => exact ⟨0, Nat.zero_le _, rfl, rfl⟩
      case round =>
        obtain ⟨k, hk, rfl, rfl⟩ := hrel
        by_cases hlt : k < L
        · have hp := fallI_bd t.toNat (by omega) (k + 1) (by omega)
          rw [show ((t.toNat : Nat) : Int) = t by omega] at hp
          have hp' : 0 ≤ fallI t k * (t - k) ∧ fallI t k * (t - k) ≤ 5040 := hp
          clear hp
          go_wp2_with fail
          go_round
          case rel => exact ⟨k + 1, by omega, by go_num, rfl⟩
          case measure => simp [intOf]; omega
        · obtain rfl : k = L := by omega
          go_wp2_with fail
          refine c2.mono ?_; rintro e w' ⟨rfl, rfl⟩
          go_wp2_with fail
          go_ret
          exact ⟨ret_int H.out.symm, rfl⟩
    · have H := hid (show onLoopsV t o = -1 by unfold onLoopsV; rw [if_neg (fun x => h2 x.2)])
      go_enter Try.func57, Try.ntmps57
      go_wp2_with fail
      refine (l1In_t _ _ _ _ h).mono ?_; rintro e w' ⟨rfl, rfl⟩
      go_wp2_with fail
      refine (l1In_f _ _ _ _ h2).mono ?_; rintro e w' ⟨rfl, rfl⟩
      go_wp2_with fail
      go_ret
      exact ⟨ret_int H.out.symm, rfl⟩
  · have H := hid (show onLoopsV t o = -1 by unfold onLoopsV; rw [if_neg (fun x => h x.1)])
    go_enter Try.func57, Try.ntmps57
    go_wp2_with fail
    refine (l1In_f _ _ _ _ h).mono ?_; rintro e w' ⟨rfl, rfl⟩
    go_wp2_with fail
    go_ret
    exact ⟨ret_int H.out.symm, rfl⟩

/-! ### TreesOf -/
theorem iTreesOf_c (t : Int) (w : World) :
    Calls Try.prog 71 #[.int .i64 t] w fun e w' => e = .returned (.int .i64 (onLoopsV t 1)) ∧ Below w.heap.size w w' := by
  go_enter Try.func71, Try.ntmps71
  go_wp2_with fail
  refine (iOnLoopsOf_c _ _ _).mono ?_; rintro e w' ⟨rfl, hb⟩
  go_wp2_with fail
  go_ret
  exact ⟨rfl, hb⟩

/-! ### ImagesOf -/
def imagesV (t o : Int) : Int := if (1 ≤ t ∧ t ≤ 7) ∧ (1 ≤ o ∧ o ≤ t) then partsN t.toNat o.toNat * fallI t o.toNat else -1
theorem img_bd : ∀ t : Nat, t ≤ 7 → ∀ o : Nat, o ≤ t → ∀ k : Nat, k ≤ o → 0 ≤ partsN t o * fallI t k ∧ partsN t o * fallI t k ≤ 10000000 := by decide +kernel

theorem iImagesOf_c (t o : Int) (w : World) :
    Calls Try.prog 65 #[.int .i64 t, .int .i64 o] w fun e w' => e = .returned (.int .i64 (imagesV t o)) ∧ Below w.heap.size w w' := by
  by_cases h : 1 ≤ t ∧ t ≤ 7
  · by_cases h2 : 1 ≤ o ∧ o ≤ t
    · have H := hid (show imagesV t o = partsN t.toNat o.toNat * fallI t o.toNat by unfold imagesV; rw [if_pos ⟨h, h2⟩])
      have b := img_bd t.toNat (by omega) o.toNat (by omega) o.toNat (by omega)
      rw [show ((t.toNat : Nat) : Int) = t by omega] at b
      have c1 := iPartsOf_in 7 t o w (by omega) (by omega) (by omega) (by omega) (by omega)
      have c2 := falling_c t o w (by omega) (by omega) (by omega) (by omega)
      have b1 := partsN_bd' t o (by omega) (by omega)
      generalize fallI t o.toNat = F at *
      generalize partsN t.toNat o.toNat = P at *
      go_enter Try.func65, Try.ntmps65
      go_wp2_with fail
      refine (within_t _ _ _ _ h).mono ?_; rintro e w' ⟨rfl, rfl⟩
      go_wp2_with fail
      refine (within_t _ _ _ _ h2).mono ?_; rintro e w' ⟨rfl, rfl⟩
      go_wp2_with fail
      refine c1.mono ?_; rintro e w1 ⟨rfl, rfl⟩
      go_wp2_with fail
      refine c2.mono ?_; rintro e w2 ⟨rfl, hb2⟩
      go_wp2_with fail
      go_ret
      exact ⟨ret_int H.out.symm, hb2⟩
    · have H := hid (show imagesV t o = -1 by unfold imagesV; rw [if_neg (fun x => h2 x.2)])
      go_enter Try.func65, Try.ntmps65
      go_wp2_with fail
      refine (within_t _ _ _ _ h).mono ?_; rintro e w' ⟨rfl, rfl⟩
      go_wp2_with fail
      refine (within_f _ _ _ _ h2).mono ?_; rintro e w' ⟨rfl, rfl⟩
      go_wp2_with fail
      go_ret
      exact ⟨ret_int H.out.symm, Below.refl _ _⟩
  · have H := hid (show imagesV t o = -1 by unfold imagesV; rw [if_neg (fun x => h x.1)])
    go_enter Try.func65, Try.ntmps65
    go_wp2_with fail
    refine (within_f _ _ _ _ h).mono ?_; rintro e w' ⟨rfl, rfl⟩
    go_wp2_with fail
    go_ret
    exact ⟨ret_int H.out.symm, Below.refl _ _⟩

theorem sImagesOf_c (t o : Int) (w : World) :
    Calls Try.prog 66 #[.int .i64 t, .int .i64 o] w fun e w' => e = .returned (.int .i64 (imagesV t o)) ∧ w = w' := by
  by_cases h : 1 ≤ t ∧ t ≤ 7
  · by_cases h2 : 1 ≤ o ∧ o ≤ t
    · have H := hid (show imagesV t o = partsN t.toNat o.toNat * fallI t o.toNat by unfold imagesV; rw [if_pos ⟨h, h2⟩])
      have b : ∀ k : Nat, k ≤ o.toNat → 0 ≤ partsN t.toNat o.toNat * fallI t k ∧ partsN t.toNat o.toNat * fallI t k ≤ 10000000 := by
        intro k hk
        have := img_bd t.toNat (by omega) o.toNat (by omega) k hk
        rwa [show ((t.toNat : Nat) : Int) = t by omega] at this
      have c1 := sPartsOf_in 7 t o w (by omega) (by omega) (by omega) (by omega) (by omega)
      obtain ⟨L, rfl⟩ := Int.eq_ofNat_of_zero_le (show 0 ≤ o by omega)
      rw [Int.toNat_natCast] at *
      have B := hid b
      clear b
      generalize partsN t.toNat L = P at *
      go_enter Try.func66, Try.ntmps66
      go_wp2_with fail
      refine (l1In_t _ _ _ _ h).mono ?_; rintro e w' ⟨rfl, rfl⟩
      go_wp2_with fail
      refine (l1In_t _ _ _ _ h2).mono ?_; rintro e w' ⟨rfl, rfl⟩
      go_wp2_with fail
      refine c1.mono ?_; rintro e w1 ⟨rfl, rfl⟩
      go_wp2_with fail
      go_loop [5, 6] (fun n i => ∃ k : Nat, k ≤ L ∧ i = .int .i64 k ∧ n = .int .i64 (P * fallI t k)) (fun _ i => L - (intOf i).toNat)
      case atStart => exact ⟨0, Nat.zero_le _, rfl, by rw [fallI, Int.mul_one]⟩
      case round =>
        obtain ⟨k, hk, rfl, rfl⟩ := hrel
        by_cases hlt : k < L
        · have hp := B.out (k + 1) (by omega)
          have q : P * fallI t (k + 1) = P * fallI t k * (t - k) := by rw [fallI, Int.mul_assoc]
          rw [q] at hp
          have Q := hid q
          clear q
          go_wp2_with fail
          go_round
          case rel => exact ⟨k + 1, by omega, by go_num, by rw [Q.out]⟩
          case measure => simp [intOf]; omega
        · obtain rfl : k = L := by omega
          go_wp2_with fail
          go_ret
          exact ⟨ret_int H.out.symm, rfl⟩
    · have H := hid (show imagesV t o = -1 by unfold imagesV; rw [if_neg (fun x => h2 x.2)])
      go_enter Try.func66, Try.ntmps66
      go_wp2_with fail
      refine (l1In_t _ _ _ _ h).mono ?_; rintro e w' ⟨rfl, rfl⟩
      go_wp2_with fail
      refine (l1In_f _ _ _ _ h2).mono ?_; rintro e w' ⟨rfl, rfl⟩
      go_wp2_with fail
      go_ret
      exact ⟨ret_int H.out.symm, rfl⟩
  · have H := hid (show imagesV t o = -1 by unfold imagesV; rw [if_neg (fun x => h x.1)])
    go_enter Try.func66, Try.ntmps66
    go_wp2_with fail
    refine (l1In_f _ _ _ _ h).mono ?_; rintro e w' ⟨rfl, rfl⟩
    go_wp2_with fail
    go_ret
    exact ⟨ret_int H.out.symm, rfl⟩

/-! ### OneLotOf -/
def oneAcc (t : Int) : Nat → Int
  | 0 => 0
  | k + 1 => oneAcc t k + onLoopsV t ((k : Int) + 1) / ((k : Int) + 1)
def oneLotV (t : Int) : Int := if 1 ≤ t ∧ t ≤ 7 then oneAcc t t.toNat else -1
theorem oneAcc_bd : ∀ t : Nat, t ≤ 7 → ∀ k : Nat, k ≤ t → 0 ≤ oneAcc t k ∧ oneAcc t k ≤ 10000000 := by decide +kernel
theorem oneAcc_st : ∀ t : Nat, t ≤ 7 → ∀ k : Nat, k < t → 0 ≤ onLoopsV t ((k : Int) + 1) ∧ 0 ≤ onLoopsV t ((k : Int) + 1) / ((k : Int) + 1) ∧ onLoopsV t ((k : Int) + 1) / ((k : Int) + 1) ≤ 10000000 := by decide +kernel
theorem oneAcc_all (t : Int) (k : Nat) (h : 1 ≤ t ∧ t ≤ 7) (hk : k < t) : (0 ≤ oneAcc t k ∧ oneAcc t k ≤ 10000000) ∧ 0 ≤ onLoopsV t ((k : Int) + 1) ∧ 0 ≤ onLoopsV t ((k : Int) + 1) / ((k : Int) + 1) ∧ onLoopsV t ((k : Int) + 1) / ((k : Int) + 1) ≤ 10000000 := by
  have a := oneAcc_bd t.toNat (by omega) k (by omega)
  have b := oneAcc_st t.toNat (by omega) k (by omega)
  rw [show ((t.toNat : Nat) : Int) = t by omega] at a b
  exact ⟨a, b⟩

theorem oneLot1_c (s t : Int) (k : Nat) (b : Nat) (w : World) (hc : w.cell? ⟨b, 0, none⟩ = some (.int .i64 t)) (hb : b < w.heap.size) (h : 1 ≤ t ∧ t ≤ 7) (hk : k < t) (hs : s = oneAcc t k) :
    Calls Try.prog 139 #[.int .i64 s, .int .i64 ((k : Int) + 1), .pointer (some ⟨b, 0, none⟩)] w fun e w' => e = .returned (.int .i64 (oneAcc t (k + 1))) ∧ Below w.heap.size w w' := by
  subst hs
  obtain ⟨⟨a1, a2⟩, b0, b1, b2⟩ := oneAcc_all t k h hk
  have H := hid (show oneAcc t (k + 1) = oneAcc t k + onLoopsV t ((k : Int) + 1) / ((k : Int) + 1) from rfl)
  have c := iOnLoopsOf_c t ((k : Int) + 1) w
  have b3 := (onLoopsV_bd t ((k : Int) + 1)).2
  generalize onLoopsV t ((k : Int) + 1) = V at *
  generalize oneAcc t k = A at *
  go_enter Try.func139, Try.ntmps139
  go_wp2_with fail
  refine c.mono ?_; rintro e w1 ⟨rfl, hb1⟩
  go_wp2_with fail
  go_ret
  exact ⟨ret_int H.out.symm, hb1⟩

theorem iOneLotOf_c (t : Int) (w : World) :
    Calls Try.prog 69 #[.int .i64 t] w fun e w' => e = .returned (.int .i64 (oneLotV t)) ∧ Below w.heap.size w w' := by
  have hc0 := cell_new1 w (.int .i64 t) 3
  by_cases h : 1 ≤ t ∧ t ≤ 7
  · have H := hid (show oneLotV t = oneAcc t t.toNat by unfold oneLotV; rw [if_pos h])
    have hmf : ∀ (fn : Fn) (first cap : Array Value) (w : World), (Instr.makeFunc fn first cap).run Try.prog w = .ok (.func fn first cap) w := fun _ _ _ _ => rfl
    have hf := folded_OneLotOf t.toNat (oneAcc t) w.heap.size (w.heap.size + 1) (w.alloc (.cells #[.int .i64 t] 3)) (by omega) (fun k W hk hB => by
      have hc := (hB.cell (p := ⟨w.heap.size, 0, none⟩) (by simp)).trans hc0
      have hz : w.heap.size + 1 ≤ W.heap.size := by have := hB.size; simpa using this
      exact (oneLot1_c (oneAcc t k) t k w.heap.size W hc (by omega) h (by omega) rfl).mono fun e w' ⟨h1, h2⟩ => ⟨h1, h2.mono hz⟩)
    rw [show ((t.toNat : Nat) : Int) = t by omega] at hf
    have HF := hid hf
    clear hf
    go_enter Try.func69, Try.ntmps69
    go_wp2_with fail
    refine (within_t _ _ _ _ h).mono ?_; rintro e w' ⟨rfl, rfl⟩
    go_wp2_with fail
    refine HF.out.mono ?_
    rintro e w' ⟨rfl, hb'⟩
    go_wp2_with fail
    go_ret
    exact ⟨ret_int H.out.symm, ((Below.refl _ _).alloc (Nat.le_refl _) _).trans (hb'.mono (by omega))⟩
  · have H := hid (show oneLotV t = -1 by unfold oneLotV; rw [if_neg h])
    go_enter Try.func69, Try.ntmps69
    go_wp2_with fail
    refine (within_f _ _ _ _ h).mono ?_; rintro e w' ⟨rfl, rfl⟩
    go_wp2_with fail
    go_ret
    exact ⟨ret_int H.out.symm, (Below.refl _ _).alloc (Nat.le_refl _) _⟩

theorem sOneLotOf_c (t : Int) (w : World) :
    Calls Try.prog 70 #[.int .i64 t] w fun e w' => e = .returned (.int .i64 (oneLotV t)) ∧ w = w' := by
  by_cases h : 1 ≤ t ∧ t ≤ 7
  · have H := hid (show oneLotV t = oneAcc t t.toNat by unfold oneLotV; rw [if_pos h])
    obtain ⟨T, rfl⟩ := Int.eq_ofNat_of_zero_le (show 0 ≤ t by omega)
    rw [Int.toNat_natCast] at *
    go_enter Try.func70, Try.ntmps70
    go_wp2_with fail
    refine (l1In_t _ _ _ _ h).mono ?_; rintro e w' ⟨rfl, rfl⟩
    go_wp2_with fail
    go_loop [3, 4] (fun n i => ∃ k : Nat, k ≤ T ∧ i = .int .i64 ((k : Int) + 1) ∧ n = .int .i64 (oneAcc T k)) (fun _ i => T + 1 - (intOf i).toNat)
    case atStart => exact ⟨0, Nat.zero_le _, rfl, rfl⟩
    case round =>
      obtain ⟨k, hk, rfl, rfl⟩ := hrel
      by_cases hlt : k < T
      · obtain ⟨⟨a1, a2⟩, b0, b1, b2⟩ := oneAcc_all (T : Int) k h (by omega)
        have H' := hid (show oneAcc T (k + 1) = oneAcc T k + onLoopsV T ((k : Int) + 1) / ((k : Int) + 1) from rfl)
        have c := sOnLoopsOf_c T ((k : Int) + 1) w
        have b3 := (onLoopsV_bd T ((k : Int) + 1)).2
        generalize onLoopsV T ((k : Int) + 1) = V at *
        generalize oneAcc T k = A at *
        go_wp2_with fail
        refine c.mono ?_; rintro e w1 ⟨rfl, rfl⟩
        go_wp2_with fail
        go_round
        case rel => exact ⟨k + 1, by omega, by go_num, by rw [H'.out]⟩
        case measure => simp [intOf]; omega
      · obtain rfl : k = T := by omega
        go_wp2_with fail
        go_ret
        exact ⟨ret_int H.out.symm, rfl⟩
  · have H := hid (show oneLotV t = -1 by unfold oneLotV; rw [if_neg h])
    go_enter Try.func70, Try.ntmps70
    go_wp2_with fail
    refine (l1In_f _ _ _ _ h).mono ?_; rintro e w' ⟨rfl, rfl⟩
    go_wp2_with fail
    go_ret
    exact ⟨ret_int H.out.symm, rfl⟩

end Go.Proofs.Ytenmgiocbdabdaa
