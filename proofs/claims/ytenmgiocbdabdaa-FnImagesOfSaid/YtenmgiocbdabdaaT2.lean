/- Plain law: what is counted among all maps of at most 4 things. -/
import Derived.Test.YtenmgiocbdabdaaT1
import Derived.Test.YtenmgiocbdabdaaS13
import Derived.Test.YtenmgiocbdabdaaA4
namespace Go.Proofs.Ytenmgiocbdabdaa
open Go.RowKit
set_option linter.unusedVariables false

/-- how many of the first i rows are so -/
def cntR (p : List Int → Bool) (rows : List (List Int)) : Nat → Nat
  | 0 => 0
  | i + 1 => cntR p rows i + if p (gl rows i) = true then 1 else 0
theorem cntR_yes {p : List Int → Bool} {rows : List (List Int)} {i : Nat} (h : p (gl rows i) = true) : cntR p rows (i + 1) = cntR p rows i + 1 := by rw [cntR, if_pos h]
theorem cntR_no {p : List Int → Bool} {rows : List (List Int)} {i : Nat} (h : p (gl rows i) = false) : cntR p rows (i + 1) = cntR p rows i := by rw [cntR, if_neg (by rw [h]; simp)]; rfl
theorem cntR_le (p : List Int → Bool) (rows : List (List Int)) : ∀ i, cntR p rows i ≤ i
  | 0 => Nat.le_refl _
  | i + 1 => by have := cntR_le p rows i; rw [cntR]; split <;> omega
set_option maxRecDepth 100000 in
theorem onl_cnt : ∀ T : Nat, T ≤ 4 → 1 ≤ T → ∀ O : Nat, O ≤ 4 → 1 ≤ O → O ≤ T → (cntR (fun r => onC r T == O) (allK T T) (allK T T).length : Int) = onLoopsV T O := by decide +kernel
theorem onl_pos : ∀ T : Nat, T ≤ 7 → 1 ≤ T → ∀ O : Nat, O ≤ 7 → 1 ≤ O → O ≤ T → 0 < onLoopsV T O := by decide +kernel
set_option maxRecDepth 100000 in
theorem set_cnt : ∀ T : Nat, T ≤ 4 → 1 ≤ T → (cntR idemB (allK T T) (allK T T).length : Int) = settledV T := by decide +kernel
theorem set_pos : ∀ T : Nat, T ≤ 7 → 1 ≤ T → 0 < settledV T ∧ (4 < T → settledV ((T : Int) - 1) < settledV T) := by decide +kernel
def oneB (r : List Int) : Bool := (loopsLL r).length == 1
set_option maxRecDepth 100000 in
theorem one_cnt : ∀ T : Nat, T ≤ 4 → 1 ≤ T → (cntR oneB (allK T T) (allK T T).length : Int) = oneLotV T := by decide +kernel
theorem one_pos : ∀ T : Nat, T ≤ 7 → 1 ≤ T → 0 < oneLotV T ∧ onLoopsV T 1 ≤ oneLotV T ∧ (4 < T → onLoopsV T 1 < oneLotV T) := by decide +kernel
theorem settledV_out {t : Int} (h : ¬ (1 ≤ t ∧ t ≤ 7)) : settledV t = -1 := by unfold settledV; rw [if_neg h]
theorem oneLotV_out {t : Int} (h : ¬ (1 ≤ t ∧ t ≤ 7)) : oneLotV t = -1 := by unfold oneLotV; rw [if_neg h]
theorem onLoopsV_out2 {t o : Int} (h : ¬ ((1 ≤ t ∧ t ≤ 7) ∧ (1 ≤ o ∧ o ≤ t))) : onLoopsV t o = -1 := by unfold onLoopsV; rw [if_neg h]


end Go.Proofs.Ytenmgiocbdabdaa
