/- Sets of few things as bits. -/
import Derived.Test.YtjipecfoiddkjaaP2
import Derived.WalkKit
namespace Go.Proofs.Ytjipecfoiddkjaa
open Go.RowKit
set_option linter.unusedVariables false

theorem ofInt64 (a : Nat) (ha : a < 9223372036854775808) : (BitVec.ofInt 64 (a : Int)).toNat = a := by
  rw [BitVec.ofInt_natCast, BitVec.toNat_ofNat]; exact Nat.mod_eq_of_lt (by omega)
theorem i64_and (a b : Nat) (ha : a < 9223372036854775808) (hb : b < 9223372036854775808) : bits .and .i64 (a : Int) (b : Int) = ((a &&& b : Nat) : Int) := by
  have hx : a &&& b < 2 ^ 63 := Nat.and_lt_two_pow _ (by omega)
  show IntKind.i64.wrap ((BitVec.ofInt 64 (a : Int) &&& BitVec.ofInt 64 (b : Int)).toNat : Int) = _
  rw [BitVec.toNat_and, ofInt64 a ha, ofInt64 b hb, IntKind.wrap_i64]
  omega
theorem i64_or (a b : Nat) (ha : a < 9223372036854775808) (hb : b < 9223372036854775808) : bits .or .i64 (a : Int) (b : Int) = ((a ||| b : Nat) : Int) := by
  have hx : a ||| b < 2 ^ 63 := Nat.or_lt_two_pow (by omega) (by omega)
  show IntKind.i64.wrap ((BitVec.ofInt 64 (a : Int) ||| BitVec.ofInt 64 (b : Int)).toNat : Int) = _
  rw [BitVec.toNat_or, ofInt64 a ha, ofInt64 b hb, IntKind.wrap_i64]
  omega

/-- a set of things, as bits -/
def mask (l : List Nat) : Nat := l.foldl (fun m x => m ||| 2 ^ x) 0
theorem mask_snoc (l : List Nat) (x : Nat) : mask (l ++ [x]) = mask l ||| 2 ^ x := by simp [mask, List.foldl_append]
theorem foldl_bit (l : List Nat) (m i : Nat) : (l.foldl (fun m x => m ||| 2 ^ x) m).testBit i = (m.testBit i || decide (i ∈ l)) := by
  induction l generalizing m with
  | nil => simp
  | cons x l ih =>
    rw [List.foldl_cons, ih, Nat.testBit_or, Nat.testBit_two_pow]
    by_cases h : x = i
    · subst h; simp
    · have h' : ¬ i = x := fun e => h e.symm
      simp [h, h']
theorem mask_bit (l : List Nat) (i : Nat) : (mask l).testBit i = decide (i ∈ l) := by rw [mask, foldl_bit]; simp
theorem foldl_lt (l : List Nat) (m : Nat) (hm : m < 256) (h : ∀ x ∈ l, x < 8) : l.foldl (fun m x => m ||| 2 ^ x) m < 256 := by
  induction l generalizing m with
  | nil => exact hm
  | cons x l ih =>
    rw [List.foldl_cons]
    refine ih _ ?_ (fun y hy => h y (List.mem_cons_of_mem _ hy))
    exact Nat.or_lt_two_pow (n := 8) (by omega) (Nat.pow_lt_pow_right (by omega) (h x (by simp)))
theorem mask_lt {l : List Nat} (h : ∀ x ∈ l, x < 8) : mask l < 256 := foldl_lt l 0 (by omega) h
theorem wrap_pow {x : Nat} (h : x < 8) : wrap64 ((2 : Int) ^ x) = ((2 ^ x : Nat) : Int) := by
  have : x = 0 ∨ x = 1 ∨ x = 2 ∨ x = 3 ∨ x = 4 ∨ x = 5 ∨ x = 6 ∨ x = 7 := by omega
  rcases this with rfl | rfl | rfl | rfl | rfl | rfl | rfl | rfl <;> decide +kernel
theorem pow_lt {x : Nat} (h : x < 8) : 2 ^ x < 256 := Nat.pow_lt_pow_right (n := 8) (by omega) h
/-- 'seen | 1<<x' -/
theorem mask_or {l : List Nat} {x : Nat} (h : ∀ y ∈ l, y < 8) (hx : x < 8) : bits BinOp.or IntKind.i64 (mask l : Int) (wrap64 ((2 : Int) ^ x)) = (mask (l ++ [x]) : Int) := by
  have h1 := mask_lt h
  have h2 := pow_lt hx
  rw [wrap_pow hx, i64_or _ _ (by omega) (by omega), mask_snoc]
/-- 'seen & 1<<x' -/
theorem mask_and {l : List Nat} {x : Nat} (h : ∀ y ∈ l, y < 8) (hx : x < 8) : (bits BinOp.and IntKind.i64 (mask l : Int) (wrap64 ((2 : Int) ^ x)) == 0) = !decide (x ∈ l) := by
  have h1 := mask_lt h
  have h2 := pow_lt hx
  have h3 : 0 < 2 ^ x := Nat.two_pow_pos x
  rw [wrap_pow hx, i64_and _ _ (by omega) (by omega)]
  by_cases hm : x ∈ l
  · have hb : (mask l &&& 2 ^ x).testBit x = true := by rw [Nat.testBit_and, mask_bit, Nat.testBit_two_pow]; simp [hm]
    have hne : mask l &&& 2 ^ x ≠ 0 := fun e => by rw [e] at hb; simp at hb
    simp only [hm, decide_true, Bool.not_true, beq_eq_false_iff_ne]
    omega
  · have he : mask l &&& 2 ^ x = 0 := by
      apply Nat.eq_of_testBit_eq
      intro i
      rw [Nat.testBit_and, mask_bit, Nat.testBit_two_pow]
      by_cases hi : x = i
      · subst hi; simp [hm]
      · simp [hi]
    simp [he, hm]

theorem mem_walk_lt {xs : List Int} (h : Good xs) {t : Nat} (ht : t < xs.length) (m : Nat) : ∀ x ∈ walk xs t m, x < 8 := by
  intro x hx
  obtain ⟨j, _, rfl⟩ := mem_walk.1 hx
  have := h.it_lt ht j
  have := h.1.2
  omega
theorem rho_first {xs : List Int} (h : Good xs) {t : Nat} (ht : t < xs.length) {j : Nat} (hj : j ≤ rho xs t) : it xs j t ∈ walk xs t j ↔ j = rho xs t := by
  constructor
  · intro hm
    obtain ⟨i, hi, e⟩ := mem_walk.1 hm
    rcases Nat.lt_or_ge j (rho xs t) with hlt | hge
    · exact absurd (it_inj h ht (by omega) hlt e) (by omega)
    · omega
  · rintro rfl
    exact rho_back h ht
end Go.Proofs.Ytjipecfoiddkjaa
