/- Plain law: measures of the texts of shapes. -/
import Derived.Test.YtjipecfoiddkjaaY3
import Derived.Test.YtjipecfoiddkjaaX9
namespace Go.Proofs.Ytjipecfoiddkjaa
open Go.RowKit Go.Sort
set_option linter.unusedVariables false

theorem join_mu {μ : Txt → Nat} (hμ : ∀ a b, μ (a ++ b) = μ a + μ b) (sep : Txt) : ∀ l : List Txt, l ≠ [] → μ (Lib.join l sep) = (l.map μ).sum + (l.length - 1) * μ sep
  | [], h => absurd rfl h
  | x :: r, _ => by
    rw [Lib.join_cons, hμ, Lib.joinTail, mu_flat hμ, List.map_map]
    have : ∀ r : List Txt, (r.map (μ ∘ (sep ++ ·))).sum = (r.map μ).sum + r.length * μ sep := fun r => by
      induction r with
      | nil => simp
      | cons y r ih => simp only [List.map_cons, List.sum_cons, Function.comp, hμ, List.length_cons, Nat.succ_mul] at ih ⊢; omega
    rw [this, List.map_cons, List.sum_cons, List.length_cons, Nat.add_sub_cancel]
    omega
theorem mins_nodup (f : List Int) : (mins f).Nodup := List.Nodup.sublist List.filter_sublist List.nodup_range
theorem mem_mins {f : List Int} {t : Nat} : t ∈ mins f ↔ t < f.length ∧ loopOf f t = t := by simp [mins]
theorem loopsT_mins {f : List Int} (hf : Good f) : loopsT f = (mins f).map (loopT f) := by
  rw [loopsT, loopsLL_mins hf, List.map_map]
  refine List.map_congr_left fun t ht => ?_
  obtain ⟨h1, h2⟩ := mem_mins.1 ht
  have hp := rho_pos hf h1
  have e : nth (ints (way f t)) 0 = (t : Int) := by rw [nth_way f t 0 hp]; rfl
  show loopTV f (nth (ints (way f t)) 0) = loopT f t
  rw [e, loopTV, if_pos (th_of hf h1), Int.toNat_natCast]
theorem mins_sum {f : List Int} (hf : Good f) : sl (fun t => cntL f t f.length) (mins f) = f.length := by
  have e : sl (fun t => cntL f t f.length) (mins f) = sm (fun k => sl (fun t => if loopOf f k = t then 1 else 0) (mins f)) f.length := sl_swap (fun t k => if loopOf f k = t then 1 else 0) _ _
  have e1 : ∀ k, k < f.length → sl (fun t => if loopOf f k = t then 1 else 0) (mins f) = 1 := fun k hk => by
    rw [sl_congr (h := fun t => if t = loopOf f k then 1 else 0) (fun t _ => by
      by_cases h : loopOf f k = t
      · rw [if_pos h, if_pos h.symm]
      · rw [if_neg h, if_neg (fun h2 => h h2.symm)]), sl_ind _ (mins_nodup f), if_pos (mem_mins.2 ⟨loopOf_lt hf hk, loopOf_idem hf hk⟩)]
  rw [e, sm_congr (h := fun _ => 1) e1]
  have : ∀ n, sm (fun _ => 1) n = n := fun n => by
    induction n with
    | zero => rfl
    | succ n ih => rw [sm, ih]
  exact this _
theorem shape_mu {μ : Txt → Nat} (hμ : ∀ a b, μ (a ++ b) = μ a + μ b) {f : List Int} (hf : Good f) : μ (shapeT f) = f.length * μ [40, 41] + ((loopsLL f).length - 1) * μ [43] := by
  have h1 := hf.1.1
  have hne : mins f ≠ [] := fun e => by
    have : loopOf f 0 ∈ mins f := mem_mins.2 ⟨loopOf_lt hf h1, loopOf_idem hf h1⟩
    rw [e] at this
    simp at this
  have hs : (sortT (loopsT f)).length = (mins f).length := by rw [sortT_len, loopsT_mins hf, List.length_map]
  have e : ((sortT (loopsT f)).map μ).sum = sl (fun t => cntL f t f.length) (mins f) * μ [40, 41] := by
    rw [((sortT_perm (loopsT f)).map μ).sum_nat, loopsT_mins hf, List.map_map, ← sl_mul]
    show _ = ((mins f).map _).sum
    congr 1
    refine List.map_congr_left fun t ht => ?_
    obtain ⟨h2, h3⟩ := mem_mins.1 ht
    have := loop_mu hμ hf h2
    rw [h3] at this
    exact this
  rw [shapeT, join_mu hμ _ _ (fun h => by rw [h] at hs; exact hne (List.eq_nil_of_length_eq_zero hs.symm)), e, mins_sum hf, hs, mins_len hf]

end Go.Proofs.Ytjipecfoiddkjaa
