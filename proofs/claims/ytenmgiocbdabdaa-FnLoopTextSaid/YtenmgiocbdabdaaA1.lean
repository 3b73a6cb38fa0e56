/- Contracts of small functions of the counts. -/
import Derived.Test.YtenmgiocbdabdaaProg
import Derived.WalkKit
namespace Go.Proofs.Ytenmgiocbdabdaa
open Go.RowKit
set_option linter.unusedVariables false

theorem hid {p : Prop} (h : p) : Hid p := h

theorem ret_bool {a b : Bool} (h : a = b) : Ending.returned (.bool a) = .returned (.bool b) := by rw [h]
theorem ret_int {k : IntKind} {a b : Int} (h : a = b) : Ending.returned (.int k a) = .returned (.int k b) := by rw [h]

theorem l1In_t (n lo hi : Int) (w : World) (h : lo ≤ n ∧ n ≤ hi) :
    Calls Try.prog 125 #[.int .i64 n, .int .i64 lo, .int .i64 hi] w fun e w' => e = .returned (.bool true) ∧ w = w' := by
  obtain ⟨h1, h2⟩ := h
  go_enter Try.func125, Try.ntmps125
  go_wp2
  all_goals go_ret
  all_goals exact ⟨ret_bool (by first | rfl | (simp; omega)), rfl⟩
theorem l1In_f (n lo hi : Int) (w : World) (h : ¬ (lo ≤ n ∧ n ≤ hi)) :
    Calls Try.prog 125 #[.int .i64 n, .int .i64 lo, .int .i64 hi] w fun e w' => e = .returned (.bool false) ∧ w = w' := by
  go_enter Try.func125, Try.ntmps125
  go_wp2
  all_goals go_ret
  all_goals exact ⟨ret_bool (by first | rfl | (simp; omega)), rfl⟩
theorem within_t (n lo hi : Int) (w : World) (h : lo ≤ n ∧ n ≤ hi) :
    Calls Try.prog 127 #[.int .i64 n, .int .i64 lo, .int .i64 hi] w fun e w' => e = .returned (.bool true) ∧ w = w' := by
  obtain ⟨h1, h2⟩ := h
  go_enter Try.func127, Try.ntmps127
  go_wp2
  all_goals go_ret
  all_goals exact ⟨ret_bool (by first | rfl | (simp; omega)), rfl⟩
theorem within_f (n lo hi : Int) (w : World) (h : ¬ (lo ≤ n ∧ n ≤ hi)) :
    Calls Try.prog 127 #[.int .i64 n, .int .i64 lo, .int .i64 hi] w fun e w' => e = .returned (.bool false) ∧ w = w' := by
  go_enter Try.func127, Try.ntmps127
  go_wp2
  all_goals go_ret
  all_goals exact ⟨ret_bool (by first | rfl | (simp; omega)), rfl⟩

def partsN : Nat → Nat → Int
  | 0, 0 => 1
  | 0, _ + 1 => 0
  | _ + 1, 0 => 0
  | t + 1, l + 1 => if l + 1 > t + 1 then 0 else partsN t l + (l + 1) * partsN t (l + 1)

theorem partsN_bd : ∀ t ≤ 7, ∀ l ≤ 7, 0 ≤ partsN t l ∧ partsN t l ≤ 1000 := by decide +kernel
theorem partsN_bd' (t l : Int) (h1 : t ≤ 7) (h2 : l ≤ 7) : 0 ≤ partsN t.toNat l.toNat ∧ partsN t.toNat l.toNat ≤ 1000 := partsN_bd _ (by omega) _ (by omega)
theorem partsN_lt (t l : Nat) (h : t < l) : partsN t l = 0 := by
  cases t <;> cases l <;> simp [partsN] <;> omega
theorem partsN_z (t : Nat) : partsN (t + 1) 0 = 0 := rfl
theorem partsN_rec (t l : Int) (h : 0 < l) (h2 : l ≤ t) : partsN t.toNat l.toNat = partsN (t - 1).toNat (l - 1).toNat + l * partsN (t - 1).toNat l.toNat := by
  obtain ⟨a, rfl⟩ : ∃ a : Nat, t = a + 1 := ⟨(t - 1).toNat, by omega⟩
  obtain ⟨b, rfl⟩ : ∃ b : Nat, l = b + 1 := ⟨(l - 1).toNat, by omega⟩
  rw [show ((a : Int) + 1).toNat = a + 1 by omega, show ((b : Int) + 1).toNat = b + 1 by omega, partsN, if_neg (by omega)]
  congr 2 <;> congr 1 <;> omega

theorem sPartsOf_in (k : Nat) : ∀ (t l : Int) (w : World), t ≤ k → 0 ≤ t → t ≤ 7 → 0 ≤ l → l ≤ 7 →
    Calls Try.prog 136 #[.int .i64 t, .int .i64 l] w fun e w' => e = .returned (.int .i64 (partsN t.toNat l.toNat)) ∧ w = w' := by
  have small : ∀ (t l : Int) (w : World), 0 ≤ t → t ≤ 7 → 0 ≤ l → l ≤ 7 → (l = 0 ∨ t < l) → 
    Calls Try.prog 136 #[.int .i64 t, .int .i64 l] w fun e w' => e = .returned (.int .i64 (partsN t.toNat l.toNat)) ∧ w = w' := by
    intro t l w h2 h3 h4 h5 h
    by_cases ht : t = 0
    · subst ht
      by_cases hl : l = 0
      · subst hl
        go_enter Try.func136, Try.ntmps136
        go_wp2_with (go_at_call 125; refine (l1In_t _ _ _ _ (by omega)).mono ?_; rintro e w' ⟨rfl, rfl⟩)
        go_ret
        exact ⟨rfl, rfl⟩
      · have h7 : 0 < l := by omega
        clear h
        go_enter Try.func136, Try.ntmps136
        go_wp2_with (go_at_call 125; refine (l1In_t _ _ _ _ (by omega)).mono ?_; rintro e w' ⟨rfl, rfl⟩)
        go_ret
        exact ⟨ret_int (by rw [partsN_lt _ _ (by omega)]), rfl⟩
    · have h6 : 0 < t := by omega
      by_cases hl : l = 0
      · subst hl
        clear h
        go_enter Try.func136, Try.ntmps136
        go_wp2_with (go_at_call 125; refine (l1In_t _ _ _ _ (by omega)).mono ?_; rintro e w' ⟨rfl, rfl⟩)
        go_ret
        exact ⟨ret_int (by rw [show t.toNat = (t.toNat - 1) + 1 by omega]; rfl), rfl⟩
      · have h7 : t < l := by omega
        clear h
        go_enter Try.func136, Try.ntmps136
        go_wp2_with (go_at_call 125; refine (l1In_t _ _ _ _ (by omega)).mono ?_; rintro e w' ⟨rfl, rfl⟩)
        go_ret
        exact ⟨ret_int (by rw [partsN_lt _ _ (by omega)]), rfl⟩
  induction k with
  | zero =>
    intro t l w h1 h2 h3 h4 h5
    exact small t l w h2 h3 h4 h5 (by omega)
  | succ k ih =>
    intro t l w h1 h2 h3 h4 h5
    by_cases h : l = 0 ∨ t < l
    · exact small t l w h2 h3 h4 h5 h
    · have b1 := partsN_bd' (t - 1) (l - 1) (by omega) (by omega)
      have b2 := partsN_bd' (t - 1) l (by omega) (by omega)
      have HR := hid (partsN_rec t l (by omega) (by omega))
      have h6 : 0 < l := by omega
      have h7 : l ≤ t := by omega
      have hm : 0 ≤ l * partsN (t - 1).toNat l.toNat ∧ l * partsN (t - 1).toNat l.toNat ≤ 7000 := by
        constructor
        · exact Int.mul_nonneg h4 b2.1
        · exact Int.le_trans (Int.mul_le_mul h5 b2.2 b2.1 (by omega)) (by decide)
      have ih1 := ih (t - 1) (l - 1) w (by omega) (by omega) (by omega) (by omega) (by omega)
      have ih2 := ih (t - 1) l w (by omega) (by omega) (by omega) (by omega) (by omega)
      generalize partsN (t - 1).toNat (l - 1).toNat = p1 at *
      generalize partsN (t - 1).toNat l.toNat = p2 at *
      have q1 : (l == 0) = false := by simp; omega
      have q2 : decide (t < l) = false := by simp; omega
      clear h ih
      go_enter Try.func136, Try.ntmps136
      go_wp2_with (go_at_call 125; refine (l1In_t _ _ _ _ (by omega)).mono ?_; rintro e w' ⟨rfl, rfl⟩)
      refine ih1.mono ?_; rintro e w' ⟨rfl, rfl⟩
      go_wp2_with fail
      refine ih2.mono ?_; rintro e w' ⟨rfl, rfl⟩
      go_wp2_with fail
      go_ret
      exact ⟨ret_int (by rw [HR.out]), rfl⟩

theorem iPartsOf_in (k : Nat) : ∀ (t l : Int) (w : World), t ≤ k → 0 ≤ t → t ≤ 7 → 0 ≤ l → l ≤ 7 →
    Calls Try.prog 135 #[.int .i64 t, .int .i64 l] w fun e w' => e = .returned (.int .i64 (partsN t.toNat l.toNat)) ∧ w = w' := by
  have small : ∀ (t l : Int) (w : World), 0 ≤ t → t ≤ 7 → 0 ≤ l → l ≤ 7 → (l = 0 ∨ t < l) → 
    Calls Try.prog 135 #[.int .i64 t, .int .i64 l] w fun e w' => e = .returned (.int .i64 (partsN t.toNat l.toNat)) ∧ w = w' := by
    intro t l w h2 h3 h4 h5 h
    by_cases ht : t = 0
    · subst ht
      by_cases hl : l = 0
      · subst hl
        go_enter Try.func135, Try.ntmps135
        go_wp2_with (go_at_call 127; refine (within_t _ _ _ _ (by omega)).mono ?_; rintro e w' ⟨rfl, rfl⟩)
        go_ret
        exact ⟨rfl, rfl⟩
      · have h7 : 0 < l := by omega
        clear h
        go_enter Try.func135, Try.ntmps135
        go_wp2_with (go_at_call 127; refine (within_t _ _ _ _ (by omega)).mono ?_; rintro e w' ⟨rfl, rfl⟩)
        go_ret
        exact ⟨ret_int (by rw [partsN_lt _ _ (by omega)]), rfl⟩
    · have h6 : 0 < t := by omega
      by_cases hl : l = 0
      · subst hl
        clear h
        go_enter Try.func135, Try.ntmps135
        go_wp2_with (go_at_call 127; refine (within_t _ _ _ _ (by omega)).mono ?_; rintro e w' ⟨rfl, rfl⟩)
        go_ret
        exact ⟨ret_int (by rw [show t.toNat = (t.toNat - 1) + 1 by omega]; rfl), rfl⟩
      · have h7 : t < l := by omega
        clear h
        go_enter Try.func135, Try.ntmps135
        go_wp2_with (go_at_call 127; refine (within_t _ _ _ _ (by omega)).mono ?_; rintro e w' ⟨rfl, rfl⟩)
        go_ret
        exact ⟨ret_int (by rw [partsN_lt _ _ (by omega)]), rfl⟩
  induction k with
  | zero =>
    intro t l w h1 h2 h3 h4 h5
    exact small t l w h2 h3 h4 h5 (by omega)
  | succ k ih =>
    intro t l w h1 h2 h3 h4 h5
    by_cases h : l = 0 ∨ t < l
    · exact small t l w h2 h3 h4 h5 h
    · have b1 := partsN_bd' (t - 1) (l - 1) (by omega) (by omega)
      have b2 := partsN_bd' (t - 1) l (by omega) (by omega)
      have HR := hid (partsN_rec t l (by omega) (by omega))
      have h6 : 0 < l := by omega
      have h7 : l ≤ t := by omega
      have hm : 0 ≤ l * partsN (t - 1).toNat l.toNat ∧ l * partsN (t - 1).toNat l.toNat ≤ 7000 := by
        constructor
        · exact Int.mul_nonneg h4 b2.1
        · exact Int.le_trans (Int.mul_le_mul h5 b2.2 b2.1 (by omega)) (by decide)
      have ih1 := ih (t - 1) (l - 1) w (by omega) (by omega) (by omega) (by omega) (by omega)
      have ih2 := ih (t - 1) l w (by omega) (by omega) (by omega) (by omega) (by omega)
      generalize partsN (t - 1).toNat (l - 1).toNat = p1 at *
      generalize partsN (t - 1).toNat l.toNat = p2 at *
      have q1 : (l == 0) = false := by simp; omega
      have q2 : decide (t < l) = false := by simp; omega
      clear h ih
      go_enter Try.func135, Try.ntmps135
      go_wp2_with (go_at_call 127; refine (within_t _ _ _ _ (by omega)).mono ?_; rintro e w' ⟨rfl, rfl⟩)
      refine ih1.mono ?_; rintro e w' ⟨rfl, rfl⟩
      go_wp2_with fail
      refine ih2.mono ?_; rintro e w' ⟨rfl, rfl⟩
      go_wp2_with fail
      go_ret
      exact ⟨ret_int (by rw [HR.out]), rfl⟩


def partsOf (t l : Int) : Int := if (0 ≤ t ∧ t ≤ 7) ∧ (0 ≤ l ∧ l ≤ 7) then partsN t.toNat l.toNat else -1
theorem sPartsOf_c (t l : Int) (w : World) :
    Calls Try.prog 136 #[.int .i64 t, .int .i64 l] w fun e w' => e = .returned (.int .i64 (partsOf t l)) ∧ w = w' := by
  by_cases ht : 0 ≤ t ∧ t ≤ 7
  · by_cases hl : 0 ≤ l ∧ l ≤ 7
    · have e : partsOf t l = partsN t.toNat l.toNat := by unfold partsOf; rw [if_pos ⟨ht, hl⟩]
      rw [e]
      exact sPartsOf_in 7 t l w (by omega) ht.1 ht.2 hl.1 hl.2
    · have H := hid (show partsOf t l = -1 by unfold partsOf; rw [if_neg (fun h => hl h.2)])
      go_enter Try.func136, Try.ntmps136
      go_wp2_with fail
      refine (l1In_t _ _ _ _ ht).mono ?_; rintro e w' ⟨rfl, rfl⟩
      go_wp2_with fail
      refine (l1In_f _ _ _ _ hl).mono ?_; rintro e w' ⟨rfl, rfl⟩
      go_wp2_with fail
      go_ret
      exact ⟨ret_int H.out.symm, rfl⟩
  · have H := hid (show partsOf t l = -1 by unfold partsOf; rw [if_neg (fun h => ht h.1)])
    go_enter Try.func136, Try.ntmps136
    go_wp2_with fail
    refine (l1In_f _ _ _ _ ht).mono ?_; rintro e w' ⟨rfl, rfl⟩
    go_wp2_with fail
    go_ret
    exact ⟨ret_int H.out.symm, rfl⟩
theorem iPartsOf_c (t l : Int) (w : World) :
    Calls Try.prog 135 #[.int .i64 t, .int .i64 l] w fun e w' => e = .returned (.int .i64 (partsOf t l)) ∧ w = w' := by
  by_cases ht : 0 ≤ t ∧ t ≤ 7
  · by_cases hl : 0 ≤ l ∧ l ≤ 7
    · have e : partsOf t l = partsN t.toNat l.toNat := by unfold partsOf; rw [if_pos ⟨ht, hl⟩]
      rw [e]
      exact iPartsOf_in 7 t l w (by omega) ht.1 ht.2 hl.1 hl.2
    · have H := hid (show partsOf t l = -1 by unfold partsOf; rw [if_neg (fun h => hl h.2)])
      go_enter Try.func135, Try.ntmps135
      go_wp2_with fail
      refine (within_t _ _ _ _ ht).mono ?_; rintro e w' ⟨rfl, rfl⟩
      go_wp2_with fail
      refine (within_f _ _ _ _ hl).mono ?_; rintro e w' ⟨rfl, rfl⟩
      go_wp2_with fail
      go_ret
      exact ⟨ret_int H.out.symm, rfl⟩
  · have H := hid (show partsOf t l = -1 by unfold partsOf; rw [if_neg (fun h => ht h.1)])
    go_enter Try.func135, Try.ntmps135
    go_wp2_with fail
    refine (within_f _ _ _ _ ht).mono ?_; rintro e w' ⟨rfl, rfl⟩
    go_wp2_with fail
    go_ret
    exact ⟨ret_int H.out.symm, rfl⟩

end Go.Proofs.Ytenmgiocbdabdaa
