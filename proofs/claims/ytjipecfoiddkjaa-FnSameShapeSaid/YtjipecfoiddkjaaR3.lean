/- Contracts of chapter 5: loops of each length. -/
import Derived.Test.YtjipecfoiddkjaaR2
namespace Go.Proofs.Ytjipecfoiddkjaa
open Go.RowKit
set_option linter.unusedVariables false

theorem OwnRR.kept {B : Nat} {w w' : World} {v : Value} {xss : List (List Int)} {g : Nat} (h : OwnRR B w v xss) (hg : w.grownBy w' (some g)) (hB : g < B) : OwnRR B w' v xss := by
  obtain ⟨vs, hr, he⟩ := h
  refine ⟨vs, ?_, he.kept hg fun u xs ho => ?_⟩
  · rcases hv : v.ownBlock with _ | k
    · exact World.ownsRow.kept hr hg (.inl hv)
    · have := (World.ownsRow.lt hr k hv).1
      exact World.ownsRow.kept hr hg (.inr (by rw [hv]; intro e; injection e with e; omega))
  · rcases hv : u.ownBlock with _ | k
    · exact .inl rfl
    · have := (ho.lt k hv).1
      exact .inr (by intro e; injection e with e; omega)
theorem gl_app_lt {xss : List (List Int)} {z : List Int} {k : Nat} (h : k < xss.length) : gl (xss ++ [z]) k = gl xss k := by simp [gl, List.getD, List.getElem?_append_left h]
theorem gl_app_end (xss : List (List Int)) (z : List Int) : gl (xss ++ [z]) xss.length = z := by simp [gl, List.getD]
theorem loopsK_mem (f : List Int) : ∀ k j, j < (loopsK f k).length → ∃ t, t < k ∧ loopOf f t = t ∧ gl (loopsK f k) j = ints (way f t)
  | 0, j, h => by simp [loopsK] at h
  | k + 1, j, h => by
    rw [loopsK] at h ⊢
    by_cases e : loopOf f k = k
    · rw [if_pos e] at h ⊢
      rw [List.length_append] at h
      by_cases hj : j < (loopsK f k).length
      · obtain ⟨t, h1, h2, h3⟩ := loopsK_mem f k j hj
        exact ⟨t, by omega, h2, by rw [gl_app_lt hj]; exact h3⟩
      · obtain rfl : j = (loopsK f k).length := by simp at h; omega
        exact ⟨k, by omega, e, gl_app_end _ _⟩
    · rw [if_neg e] at h ⊢
      obtain ⟨t, h1, h2, h3⟩ := loopsK_mem f k j h
      exact ⟨t, by omega, h2, h3⟩
theorem loops_long {f : List Int} (hf : Good f) {j : Nat} (h : j < (loopsLL f).length) : 1 ≤ (gl (loopsLL f) j).length ∧ (gl (loopsLL f) j).length ≤ f.length := by
  rw [loopsLL, if_pos (ok_of hf)] at h ⊢
  obtain ⟨t, h1, _, h3⟩ := loopsK_mem f _ j h
  rw [h3, way_len]
  exact ⟨rho_pos hf h1, rho_le hf h1⟩
/-- the loops counted by length, behind j of them -/
def kk (n : Nat) (xss : List (List Int)) : Nat → List Int
  | 0 => List.replicate n 0
  | j + 1 => (kk n xss j).set ((gl xss j).length - 1) (nth (kk n xss j) ((gl xss j).length - 1) + 1)
def kindsL (f : List Int) : List Int := if mapOkB f = true then kk f.length (loopsLL f) (loopsLL f).length else []
theorem kk_len (n : Nat) (xss : List (List Int)) : ∀ j, (kk n xss j).length = n
  | 0 => by simp [kk]
  | j + 1 => by rw [kk, List.length_set, kk_len n xss j]
theorem nth_set (xs : List Int) (i k : Nat) (z : Int) : nth (xs.set i z) k = if i = k ∧ i < xs.length then z else nth xs k := by
  by_cases e : i = k
  · subst e
    by_cases h : i < xs.length
    · simp [nth, h]
    · simp [nth, h]
  · simp [nth, e]
theorem kk_range (n : Nat) (xss : List (List Int)) : ∀ j p, 0 ≤ nth (kk n xss j) p ∧ nth (kk n xss j) p ≤ j
  | 0, p => by
    have : nth (List.replicate n (0 : Int)) p = 0 := by
      by_cases h : p < n <;> simp [nth, h]
    rw [kk, this]; omega
  | j + 1, p => by
    rw [kk, nth_set]
    have h1 := kk_range n xss j p
    have h2 := kk_range n xss j ((gl xss j).length - 1)
    split <;> omega
theorem loopsLL_len (f : List Int) (h : f.length ≤ 7) : (loopsLL f).length ≤ 7 := by
  unfold loopsLL
  split
  · have := loopsK_len f f.length; omega
  · simp

theorem kinds_len (f : List Int) (h : f.length ≤ 1048577) : (kindsL f).length ≤ 1048577 := by
  unfold kindsL
  split
  · rw [kk_len]; omega
  · simp



end Go.Proofs.Ytjipecfoiddkjaa
