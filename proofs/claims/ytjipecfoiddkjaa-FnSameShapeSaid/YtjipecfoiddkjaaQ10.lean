/- Contracts of chapters 2 and 4: least things of loops (the reference's), heights, index. -/
import Derived.Test.YtjipecfoiddkjaaQ9
namespace Go.Proofs.Ytjipecfoiddkjaa
open Go.RowKit
set_option linter.unusedVariables false

theorem th_of {f : List Int} (hf : Good f) {k : Nat} (hk : k < f.length) : thB f k = true := thB_iff.2 ⟨hf, by omega, by omega⟩
/-- the greatest tail of the first k things -/
def hiT (f : List Int) : Nat → Int
  | 0 => -1
  | k + 1 => if hiT f k < (tail f k : Int) then (tail f k : Int) else hiT f k
def highV (f : List Int) : Int := if mapOkB f = true then hiT f f.length else -1
theorem hiT_le (f : List Int) : ∀ k j, j < k → (tail f j : Int) ≤ hiT f k
  | 0, j, h => by omega
  | k + 1, j, h => by
    rw [hiT]
    by_cases e : j = k
    · subst e; split <;> omega
    · have := hiT_le f k j (by omega)
      split <;> omega
theorem hiT_mem (f : List Int) : ∀ k, 0 < k → ∃ j, j < k ∧ hiT f k = (tail f j : Int)
  | 0, h => by omega
  | k + 1, h => by
    rw [hiT]
    by_cases h1 : hiT f k < (tail f k : Int)
    · exact ⟨k, by omega, by rw [if_pos h1]⟩
    · rw [if_neg h1]
      by_cases hk : 0 < k
      · obtain ⟨j, hj, e⟩ := hiT_mem f k hk
        exact ⟨j, by omega, e⟩
      · obtain rfl : k = 0 := by omega
        simp [hiT] at h1
        omega
theorem hiT_low (f : List Int) : ∀ k, -1 ≤ hiT f k
  | 0 => by simp [hiT]
  | k + 1 => by
    have := hiT_low f k
    rw [hiT]
    split <;> omega
theorem hiT_high {f : List Int} (hf : Good f) {k : Nat} (hk : k ≤ f.length) : hiT f k < f.length := by
  cases k with
  | zero => simp only [hiT]; omega
  | succ k =>
    obtain ⟨j, hj, e⟩ := hiT_mem f (k + 1) (by omega)
    have := tail_le hf (show j < f.length by omega)
    omega



theorem mem_loopL' {f : List Int} {n x : Nat} : x ∈ loopL f n ↔ ∃ j, tail f n ≤ j ∧ j < rho f n ∧ it f j n = x := by
  constructor
  · intro h
    obtain ⟨i, hi, rfl⟩ := List.getElem_of_mem h
    have hi' := hi
    rw [loopL_len, loop] at hi'
    refine ⟨tail f n + i, by omega, by omega, ?_⟩
    simp only [loopL, List.getElem_drop, way, walk_get]
  · rintro ⟨j, h1, h2, rfl⟩
    have hi : j - tail f n < (loopL f n).length := by rw [loopL_len, loop]; omega
    have := List.getElem_mem hi
    simp only [loopL, List.getElem_drop, way, walk_get] at this
    rw [show tail f n + (j - tail f n) = j by omega] at this
    exact this
/-- the least thing among those of the loop that the first k steps have seen; -1 ahead of it -/
def bst (f : List Int) (n : Nat) : Nat → Int
  | 0 => -1
  | k + 1 => if tail f n ≤ k ∧ (bst f n k < 0 ∨ (it f k n : Int) < bst f n k) then (it f k n : Int) else bst f n k
theorem bst_low (f : List Int) (n : Nat) : ∀ k, k ≤ tail f n → bst f n k = -1
  | 0, _ => rfl
  | k + 1, h => by rw [bst, if_neg (fun h' => by omega), bst_low f n k (by omega)]
theorem bst_spec (f : List Int) (n : Nat) : ∀ k, tail f n < k → (∃ j, tail f n ≤ j ∧ j < k ∧ bst f n k = (it f j n : Int)) ∧ ∀ j, tail f n ≤ j → j < k → bst f n k ≤ (it f j n : Int)
  | 0, h => by omega
  | k + 1, h => by
    by_cases hk : tail f n < k
    · obtain ⟨⟨j, h1, h2, e⟩, hall⟩ := bst_spec f n k hk
      by_cases hx : (it f k n : Int) < bst f n k
      · rw [bst, if_pos ⟨by omega, .inr hx⟩]
        refine ⟨⟨k, by omega, by omega, rfl⟩, fun j h3 h4 => ?_⟩
        by_cases hjk : j = k
        · subst hjk; omega
        · have := hall j h3 (by omega); omega
      · rw [bst, if_neg (fun h' => by rcases h'.2 with h5 | h5 <;> omega)]
        refine ⟨⟨j, h1, by omega, e⟩, fun j h3 h4 => ?_⟩
        by_cases hjk : j = k
        · subst hjk; omega
        · exact hall j h3 (by omega)
    · obtain rfl : k = tail f n := by omega
      rw [bst, if_pos ⟨by omega, .inl (by rw [bst_low _ _ _ (Nat.le_refl _)]; decide)⟩]
      refine ⟨⟨tail f n, by omega, by omega, rfl⟩, fun j h3 h4 => ?_⟩
      obtain rfl : j = tail f n := by omega
      exact Int.le_refl _
theorem bst_all {f : List Int} (hf : Good f) {n : Nat} (hn : n < f.length) : bst f n (rho f n) = (loopOf f n : Int) := by
  obtain ⟨⟨j, h1, h2, e⟩, hall⟩ := bst_spec f n (rho f n) (tail_lt hf hn)
  rw [e, loopOf, minL_eq (mem_loopL'.2 ⟨j, h1, h2, rfl⟩)]
  intro x hx
  obtain ⟨i, h3, h4, rfl⟩ := mem_loopL'.1 hx
  have := hall i h3 h4
  omega

end Go.Proofs.Ytjipecfoiddkjaa
