/- Contracts of chapter 4: divisors, periods. -/
import Derived.Test.YtjipecfoiddkjaaR3
namespace Go.Proofs.Ytjipecfoiddkjaa
open Go.RowKit
set_option linter.unusedVariables false

/-- the least number that the lengths of the first j loops divide -/
def per (xss : List (List Int)) : Nat → Nat
  | 0 => 1
  | j + 1 => per xss j / Nat.gcd (per xss j) (gl xss j).length * (gl xss j).length
theorem per_bound (xss : List (List Int)) (h : ∀ j, j < xss.length → 1 ≤ (gl xss j).length ∧ (gl xss j).length ≤ 7) : ∀ j, j ≤ xss.length → 1 ≤ per xss j ∧ per xss j ≤ 7 ^ j
  | 0, _ => by simp [per]
  | j + 1, hj => by
    obtain ⟨h1, h2⟩ := per_bound xss h j (by omega)
    obtain ⟨h3, h4⟩ := h j (by omega)
    rw [per]
    have hd : Nat.gcd (per xss j) (gl xss j).length ∣ per xss j := Nat.gcd_dvd_left _ _
    have hq : 1 ≤ per xss j / Nat.gcd (per xss j) (gl xss j).length := Nat.div_pos (Nat.le_of_dvd h1 hd) (Nat.gcd_pos_of_pos_left _ h1)
    refine ⟨Nat.le_trans (by omega) (Nat.mul_le_mul hq h3), ?_⟩
    rw [Nat.pow_succ]
    exact Nat.mul_le_mul (Nat.le_trans (Nat.div_le_self _ _) h2) h4
def periodV (f : List Int) : Int := if mapOkB f = true then (per (loopsLL f) (loopsLL f).length : Int) else -1



theorem pow7 : ∀ j, j ≤ 7 → 7 ^ j ≤ 823543 := fun j hj => Nat.pow_le_pow_right (n := 7) (by omega) hj


end Go.Proofs.Ytjipecfoiddkjaa
