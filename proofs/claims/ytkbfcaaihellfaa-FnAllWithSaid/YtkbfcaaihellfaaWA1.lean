/- Steps on the way to the law; each part says what it proves. -/
import Derived.Test.YtkbfcaaihellfaaW5

set_option linter.unusedSimpArgs false

/- Contracts of the laws' draws of maps, a goroutine alone on whatever schedule; where ways meet again. -/
namespace Go.Proofs.Ytkbfcaaihellfaa
open Go.Conc Go.ConcN Go.RowKit
set_option linter.unusedVariables false
set_option linter.unusedSectionVars false

section
variable {Sb : Nat → Prop} {Post : Value → World → Prop} {v v' w w' W0 : World} {A B : Option Addr} {c d : Nat} {f g xs : List Int} {F F' : World → Prop}
theorem drawRootsOf_la {a : Option Addr} {len cap : Nat} {zs : List Int} (hp : PR Sb v w) (h : RowIn .u8 v a len cap zs) (hn : len ≤ 1048576) : CLA Sb Post 26 #[.slice a len cap] w fun x v' => (∃ (xs : List Int) (A : Option Addr) (c : Nat), xs.length ≤ 8 ∧ x = .slice A xs.length c ∧ RdA v' A xs) ∧ Ltr Sb v v' :=
  callsLA (by rfl) hp (fun τ => DrawRootsOf_c a len cap zs (v.tp τ 0) h hn) fun τ e v' h => let ⟨xs, A, c, h1, e1, ho, hb⟩ := h; ⟨_, e1, ⟨xs, A, c, h1, rfl, ho.rd⟩, ltr_of_below hb⟩
theorem drawAllWith_la {a : Option Addr} {len cap : Nat} {zs : List Int} (hp : PR Sb v w) (h : RowIn .u8 v a len cap zs) (hn : len ≤ 1048576) : CLA Sb Post 19 #[.slice a len cap] w fun x v' => (∃ (xs : List Int) (A : Option Addr) (c : Nat), xs.length ≤ 8 ∧ x = .slice A xs.length c ∧ RdA v' A xs) ∧ Ltr Sb v v' :=
  callsLA (by rfl) hp (fun τ => DrawAllWith_c a len cap zs (v.tp τ 0) h hn) fun τ e v' h => let ⟨xs, A, c, h1, e1, ho, hb⟩ := h; ⟨_, e1, ⟨xs, A, c, h1, rfl, ho.rd⟩, ltr_of_below hb⟩
end
/-- where ways meet again behind a piece of code -/
theorem t_join {γ : Type} {T : γ → Goroutine → World → Prop} {b : Frame} {a : Act} {c : Code} {k : List Item} {cs : List Frame} {y : γ} {w : World} (I : Act → World → Prop) (h1 : ∀ a' w', I a' w' → T y (G (b.atR a' k) cs) w')
    (h2 : (∀ a' w', I a' w' → T y (G (b.atR a' k) cs) w') → T y (G (b.atR a (.code c :: k)) cs) w) : T y (G (b.atR a (.code c :: k)) cs) w := h2 h1
end Go.Proofs.Ytkbfcaaihellfaa

/- Plain law: what goes with a map is closed. No program in sight. -/
namespace Go.Proofs.Ytkbfcaaihellfaa
set_option linter.unusedVariables false

theorem withP_symm (f g : List Int) : withB f g = withB g f := by
  unfold withB
  by_cases h : behindL f g = behindL g f
  · rw [h]
  · rw [decide_eq_false (fun e => h e.2), decide_eq_false (fun e => h e.2.symm)]
theorem withP_parts {f g : List Int} (h : withB f g = true) : Good f ∧ Good g ∧ f.length = g.length ∧ ∀ k, k < f.length → ap g (ap f k) = ap f (ap g k) := by
  have h' := of_decide_eq_true h
  obtain ⟨h1, h2, h3⟩ := behindL_ne h'.1
  have e := h'.2
  rw [behindL_good (good_of h1) (good_of h2) h3, behindL_good (good_of h2) (good_of h1) h3.symm, ← h3] at e
  exact ⟨good_of h1, good_of h2, h3, mk_eq_iff.1 e⟩
theorem withP_of {f g : List Int} (hf : Good f) (hg : Good g) (hl : f.length = g.length) (h : ∀ k, k < f.length → ap g (ap f k) = ap f (ap g k)) : withB f g = true := by
  refine decide_eq_true ⟨fun e => ?_, ?_⟩
  · have := (good_behind hf hg hl).2
    have h1 := hf.1
    rw [e] at this
    simp at this
    omega
  · rw [behindL_good hf hg hl, behindL_good hg hf hl.symm, ← hl]
    exact mk_congr fun k hk => h k hk
theorem withP_comp {a b f : List Int} (ha : withB a f = true) (hb : withB b f = true) : withB (behindL a b) f = true := by
  obtain ⟨ga, gf, la, ca⟩ := withP_parts ha
  obtain ⟨gb, _, lb, cb⟩ := withP_parts hb
  have hl : a.length = b.length := by omega
  obtain ⟨gg, lg⟩ := good_behind ga gb hl
  have hap : ∀ k, k < a.length → ap (behindL a b) k = ap b (ap a k) := fun k hk => by rw [behindL_good ga gb hl, ap_mk hk]
  refine withP_of gg gf (by omega) fun k hk => ?_
  have hk1 : k < a.length := by omega
  have hk2 : ap f k < a.length := by rw [la]; exact gf.ap_lt (by omega)
  rw [hap k hk1, hap _ hk2, cb _ (by rw [← hl]; exact ga.ap_lt hk1), ca k hk1]
theorem withP_self {f : List Int} (hf : Good f) : withB f f = true := withP_of hf hf rfl fun _ _ => rfl
theorem same_good {n : Nat} (h1 : 1 ≤ n) (h7 : n ≤ 7) : Good (sameL n) ∧ (sameL n).length = n ∧ ∀ k, k < n → ap (sameL n) k = k := by
  have e : sameL n = mk n (fun k => k) := by unfold sameL; rw [if_pos (by omega), Int.toNat_natCast]
  rw [e]
  exact ⟨good_mk ⟨h1, h7⟩ fun k hk => hk, mk_len _ _, fun k hk => ap_mk hk⟩
theorem withP_same {f : List Int} (hf : Good f) : withB (sameL f.length) f = true := by
  obtain ⟨g1, g2, g3⟩ := same_good hf.1.1 hf.1.2
  refine withP_of g1 hf g2 fun k hk => ?_
  rw [g2] at hk
  rw [g3 k hk, g3 _ (hf.ap_lt hk)]
/-- all rows of few numbers are listed -/
theorem allK_mem {T : Nat} : ∀ {k : Nat} {r : List Int}, r.length = k → (∀ z ∈ r, 0 ≤ z ∧ z < (T : Int)) → r ∈ allK T k
  | 0, r, h, _ => by
    obtain rfl := List.eq_nil_of_length_eq_zero h
    simp [allK]
  | k + 1, r, h, hz => by
    obtain ⟨s, x, rfl⟩ : ∃ s x, r = s ++ [x] := ⟨r.dropLast, r.getLast (by intro e; rw [e] at h; simp at h), (List.dropLast_concat_getLast _).symm⟩
    rw [allK, List.mem_flatMap]
    have hx := hz x (by simp)
    refine ⟨s, allK_mem (by simpa using h) fun z hm => hz z (by simp [hm]), List.mem_map.2 ⟨x.toNat, List.mem_range.2 (by omega), ?_⟩⟩
    have : ((x.toNat : Nat) : Int) = x := by omega
    rw [this]
theorem good_mem {f : List Int} (hf : mapOkB f = true) : f ∈ allK f.length f.length := by
  obtain ⟨_, h⟩ := mapOkB_elim hf
  refine allK_mem rfl fun z hz => ?_
  obtain ⟨k, hk, e⟩ := List.getElem_of_mem hz
  have := h k hk
  have e2 : nth f k = z := by simp [nth, hk, e]
  rw [e2] at this
  exact this
theorem with_law {f : List Int} (h : withV f ≠ []) : Good f ∧ f ∈ withV f ∧ sameL f.length ∈ withV f ∧ ∀ g ∈ withV f, withB g f = true := by
  rw [← withS_eq] at h ⊢
  unfold withS at h ⊢
  split at h
  · rename_i hc
    rw [if_pos hc]
    have hg := good_of hc.1
    refine ⟨hg, List.mem_filter.2 ⟨good_mem hc.1, withP_self hg⟩, List.mem_filter.2 ⟨?_, by rw [withP_symm]; exact withP_same hg⟩, fun g hm => ?_⟩
    · obtain ⟨g1, g2, _⟩ := same_good hg.1.1 hg.1.2
      have := good_mem (ok_of g1)
      rwa [g2] at this
    · rw [withP_symm]
      exact (List.mem_filter.1 hm).2
  · exact absurd rfl h
end Go.Proofs.Ytkbfcaaihellfaa
