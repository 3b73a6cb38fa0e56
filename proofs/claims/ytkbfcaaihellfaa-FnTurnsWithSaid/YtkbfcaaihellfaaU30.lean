/- Steps on the way to the law; each part says what it proves. -/
import Derived.Test.YtkbfcaaihellfaaU29
import Derived.Test.YtkbfcaaihellfaaU26

set_option linter.unusedSimpArgs false

/- What RootsOf and AllWith hand back: rows of as many numbers; few of them. No program in sight. -/
namespace Go.Proofs.Ytkbfcaaihellfaa
set_option linter.unusedVariables false

theorem thatL_mem {p : List Int → Bool} {n : Nat} {g : List Int} : g ∈ thatL p n ↔ p g = true ∧ ∃ j, j < n ∧ g ∈ rowsOf n j := by
  have key : ∀ k j, g ∈ (rowsFrom p (rowsOf n) j k).flatten ↔ p g = true ∧ ∃ i, j ≤ i ∧ i < j + k ∧ g ∈ rowsOf n i := by
    intro k
    induction k with
    | zero =>
      intro j
      simp only [rowsFrom, List.flatten_nil, List.not_mem_nil, false_iff]
      rintro ⟨_, i, h1, h2, _⟩
      omega
    | succ k ih =>
      intro j
      rw [rowsFrom, List.flatten_cons, List.mem_append, ih, List.mem_filter]
      constructor
      · rintro (⟨h1, h2⟩ | ⟨h1, i, h2, h3, h4⟩)
        · exact ⟨h2, j, Nat.le_refl _, by omega, h1⟩
        · exact ⟨h1, i, by omega, by omega, h4⟩
      · rintro ⟨h1, i, h2, h3, h4⟩
        rcases Nat.eq_or_lt_of_le h2 with rfl | h5
        · exact .inl ⟨h4, h1⟩
        · exact .inr ⟨h1, i, h5, by omega, h4⟩
  unfold thatL
  rw [key]
  constructor
  · rintro ⟨h1, i, h2, h3, h4⟩; exact ⟨h1, i, by omega, h4⟩
  · rintro ⟨h1, i, h2, h4⟩; exact ⟨h1, i, by omega, by omega, h4⟩
theorem rowsOf_good : ∀ n, n < 5 → ∀ j, j < n → (rowsOf n j).all (fun g => decide (g.length = n) && mapOkB g) = true := by decide +kernel
theorem thatL_row {p : List Int → Bool} {n : Nat} (hn : n ≤ 4) {g : List Int} (h : g ∈ thatL p n) : g.length = n ∧ mapOkB g = true ∧ p g = true := by
  obtain ⟨h1, j, h2, h3⟩ := thatL_mem.1 h
  have := List.all_eq_true.1 (rowsOf_good n (by omega) j h2) g h3
  simp only [Bool.and_eq_true, decide_eq_true_eq] at this
  exact ⟨this.1, this.2, h1⟩
theorem withV_row {f g : List Int} (h : g ∈ withV f) : mapOkB f = true ∧ f.length ≤ 4 ∧ g.length = f.length ∧ mapOkB g = true ∧ behindL f g ≠ [] ∧ behindL f g = behindL g f := by
  unfold withV at h
  split at h
  · rename_i hc
    obtain ⟨h1, h2, h3⟩ := thatL_row hc.2 h
    have := of_decide_eq_true h3
    exact ⟨hc.1, hc.2, h1, h2, this.1, this.2⟩
  · cases h
theorem rootsV_row {f g : List Int} (h : g ∈ rootsV f) : mapOkB f = true ∧ f.length ≤ 4 ∧ g.length = f.length ∧ mapOkB g = true ∧ behindL g g = f := by
  unfold rootsV at h
  split at h
  · rename_i hc
    obtain ⟨h1, h2, h3⟩ := thatL_row hc.2 h
    exact ⟨hc.1, hc.2, h1, h2, of_decide_eq_true h3⟩
  · cases h
theorem withV_len (f : List Int) : (withV f).length ≤ 1000 := by
  unfold withV
  split
  · rename_i hc; exact thatL_len hc.2
  · simp
theorem rootsV_len (f : List Int) : (rootsV f).length ≤ 1000 := by
  unfold rootsV
  split
  · rename_i hc; exact thatL_len hc.2
  · simp
theorem glmem {L : List (List Int)} {i : Nat} (h : i < L.length) : gl L i ∈ L := by
  rw [gl, List.getD_eq_getElem?_getD, List.getElem?_eq_getElem h]; exact List.getElem_mem h
theorem takeS {L : List (List Int)} {i : Nat} (h : i < L.length) : L.take (i + 1) = L.take i ++ [gl L i] := by
  rw [List.take_succ_eq_append_getElem h, gl, List.getD_eq_getElem?_getD, List.getElem?_eq_getElem h]; rfl
end Go.Proofs.Ytkbfcaaihellfaa

/- Plain law: turns that go with a turn are counted by its loops. No program in sight. -/
namespace Go.Proofs.Ytkbfcaaihellfaa
set_option linter.unusedVariables false

def manyV (L : List (List Int)) : Nat := L.countP turnedB
theorem many_chk : ∀ n, n < 4 → chkAll (fun f => ((manyV (withL f) : Nat) : Int) == twI (kindsL f) (n + 1)) (n + 1) (n + 1) [] = true := by decide +kernel
theorem many_turns {f : List Int} (h : turnedB f = true) (h4 : f.length ≤ 4) : ((manyV (withV f) : Nat) : Int) = turnsV f := by
  have hg := (turnedB_iff.1 h).1
  have h1 : 1 ≤ f.length := hg.1.1
  obtain ⟨n, hn⟩ : ∃ n, f.length = n + 1 := ⟨f.length - 1, by omega⟩
  have hc := many_chk n (by omega)
  rw [← hn] at hc
  have := turned_all (P := fun g => ((manyV (withL g) : Nat) : Int) == twI (kindsL g) f.length) h hc
  unfold turnsV withV
  rw [if_pos h, if_pos ⟨ok_of hg, h4⟩]
  exact eq_of_beq this
theorem manyS {L : List (List Int)} {i : Nat} (h : i < L.length) : manyV (L.take (i + 1)) = manyV (L.take i) + if turnedB (gl L i) then 1 else 0 := by
  unfold manyV
  rw [takeS h, List.countP_append, List.countP_singleton]
theorem many_len (L : List (List Int)) (i : Nat) : manyV (L.take i) ≤ L.length := by
  unfold manyV
  refine Nat.le_trans List.countP_le_length ?_
  rw [List.length_take]
  omega
end Go.Proofs.Ytkbfcaaihellfaa
