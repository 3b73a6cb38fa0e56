/- Words for the laws of powers. -/
import Derived.Test.YtenmgiocbdabdaaS9
import Derived.Test.YtenmgiocbdabdaaS12
import Derived.Test.YtenmgiocbdabdaaD4
import Derived.Test.YtenmgiocbdabdaaQ6
import Derived.Test.YtenmgiocbdabdaaB1
namespace Go.Proofs.Ytenmgiocbdabdaa
open Go.RowKit
set_option linter.unusedVariables false

theorem sameInts_t (A B : Option Addr) (c d : Nat) (xs ys : List Int) (w : World) (hR : RdA w A xs) (hS : RdA w B ys) (hn : xs.length ≤ 1048577) (hm : ys.length ≤ 1048577) (h : xs = ys) :
    Calls Try.prog 33 #[.slice A xs.length c, .slice B ys.length d] w fun e w' => e = .returned (.bool true) ∧ Below w.heap.size w w' := by
  have := sameInts_c A B c d xs ys w hR hS hn hm
  rwa [decide_eq_true h] at this
theorem sameInts_f (A B : Option Addr) (c d : Nat) (xs ys : List Int) (w : World) (hR : RdA w A xs) (hS : RdA w B ys) (hn : xs.length ≤ 1048577) (hm : ys.length ≤ 1048577) (h : xs ≠ ys) :
    Calls Try.prog 33 #[.slice A xs.length c, .slice B ys.length d] w fun e w' => e = .returned (.bool false) ∧ Below w.heap.size w w' := by
  have := sameInts_c A B c d xs ys w hR hS hn hm
  rwa [decide_eq_false h] at this
/-- a power, its number as Go has it -/
theorem power_at {xs : List Int} (gf : Good xs) (t : Int) (m : Nat) (e : t = (m : Int)) (hm : m ≤ 1000000) (A : Option Addr) (c : Nat) (W : World) (r : RdA W A xs) :
    Calls Try.prog 52 #[.slice A xs.length c, .int .i64 t] W (RetI W (pw xs m)) := by
  have h7 := gf.1.2
  subst e
  have := iPowerOf_c A c xs (m : Int) W r (by omega)
  rw [powL_yes gf hm] at this
  exact this
theorem wsumZ_mono {xs : List Int} (h : ∀ p, 0 ≤ nth xs p) (i : Nat) : ∀ j, i ≤ j → wsumZ xs i ≤ wsumZ xs j
  | 0, hi => by
    obtain rfl : i = 0 := by omega
    exact Int.le_refl _
  | j + 1, hi => by
    by_cases e : i = j + 1
    · subst e; exact Int.le_refl _
    · have := wsumZ_mono h i j (by omega)
      have := Int.mul_nonneg (show 0 ≤ (j : Int) + 1 by omega) (h j)
      rw [wsumZ]; omega
/-- how many of the first k things are on loops -/
def onC (f : List Int) (k : Nat) : Nat := ((List.range k).filter fun x => tail f x == 0).length
theorem onC_yes {f : List Int} {k : Nat} (h : tail f k = 0) : onC f (k + 1) = onC f k + 1 := by simp [onC, List.range_succ, List.filter_append, h]
theorem onC_no {f : List Int} {k : Nat} (h : ¬ tail f k = 0) : onC f (k + 1) = onC f k := by simp [onC, List.range_succ, List.filter_append, h]
theorem onC_le (f : List Int) (k : Nat) : onC f k ≤ k := by unfold onC; exact Nat.le_trans (List.length_filter_le _ _) (by simp)
/-- the power of the order leads each thing to itself, that of 1 less leads back -/
theorem turn_pw {f : List Int} (h : turnedB f = true) : pw f (perN f) = sameL f.length ∧ pw f (perN f - 1) = turnedL f := by
  obtain ⟨hf, hi⟩ := turnedB_iff.1 h
  have hp := (perN_bd hf).1
  have ht := (inj_iff_tails hf).1 hi
  have hk : ∀ x, x < f.length → it f (perN f) x = x := fun x hx => ((it_eq_iff hf hx hp).2 ⟨by rw [ht x hx]; omega, by rw [Nat.sub_zero]; exact (perN_dvd hf _).1 (Nat.dvd_refl _) x hx⟩).symm
  refine ⟨?_, ?_⟩
  · rw [← pw_zero hf]
    exact mk_congr fun x hx => hk x hx
  · rw [turnedL, if_pos h]
    refine mk_congr fun x hx => ?_
    refine hi _ _ (hf.it_lt hx _) (back_spec hf hi hx).1 ?_
    rw [(back_spec hf hi hx).2]
    have := hk x hx
    rw [show perN f = perN f - 1 + 1 by omega] at this
    exact this


end Go.Proofs.Ytenmgiocbdabdaa
