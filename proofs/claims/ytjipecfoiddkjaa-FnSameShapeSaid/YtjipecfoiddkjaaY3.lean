/- Plain law: measures of the texts of loops. -/
import Derived.Test.YtjipecfoiddkjaaY1
import Derived.Test.YtjipecfoiddkjaaX7
import Derived.Test.YtjipecfoiddkjaaS2
namespace Go.Proofs.Ytjipecfoiddkjaa
open Go.RowKit Go.Sort
set_option linter.unusedVariables false

/-- of the first k things those that come to the loop of lo -/
def cntL (f : List Int) (lo k : Nat) : Nat := sm (fun i => if loopOf f i = lo then 1 else 0) k
theorem cntL_yes {f : List Int} {lo k : Nat} (h : loopOf f k = lo) : cntL f lo (k + 1) = cntL f lo k + 1 := by rw [cntL, sm, if_pos h]; rfl
theorem cntL_no {f : List Int} {lo k : Nat} (h : ¬ loopOf f k = lo) : cntL f lo (k + 1) = cntL f lo k := by rw [cntL, sm, if_neg h]; rfl
theorem cntL_le (f : List Int) (lo k : Nat) : cntL f lo k ≤ k := sm_one_le _ (fun k => by split <;> omega) k
theorem ring_point {f : List Int} (hf : Good f) {lo k : Nat} (hl : lo < f.length) (e : loopOf f lo = lo) (hk : k < f.length) :
    sl (fun x => if up f x k then 1 else 0) (way f lo) = if loopOf f k = lo then 1 else 0 := by
  have e1 : sl (fun x => if up f x k then 1 else 0) (way f lo) = sl (fun x => if x = it f (tail f k) k then 1 else 0) (way f lo) := sl_congr fun x hx => by
    obtain ⟨_, h1, _⟩ := (mem_way_on hf hl e x).1 hx
    have : up f x k ↔ x = it f (tail f k) k := by
      unfold up
      rw [h1, Nat.sub_zero]
      exact ⟨fun h => h.2.symm, fun h => ⟨Nat.zero_le _, h.symm⟩⟩
    by_cases h3 : up f x k
    · rw [if_pos h3, if_pos (this.1 h3)]
    · rw [if_neg h3, if_neg (fun h => h3 (this.2 h))]
  rw [e1, sl_ind _ (show (way f lo).Nodup from rho_nodup hf hl)]
  have : it f (tail f k) k ∈ way f lo ↔ loopOf f k = lo := by
    rw [mem_way_on hf hl e, loopOf_it hf hk, tail_it_eq hf hk, Nat.sub_self]
    exact ⟨fun h => h.2.2, fun h => ⟨hf.it_lt hk _, rfl, h⟩⟩
  by_cases h3 : loopOf f k = lo
  · rw [if_pos h3, if_pos (this.2 h3)]
  · rw [if_neg h3, if_neg (fun h => h3 (this.1 h))]
theorem ring_sum {f : List Int} (hf : Good f) {lo : Nat} (hl : lo < f.length) (e : loopOf f lo = lo) : sl (sizeT f) (way f lo) = cntL f lo f.length := by
  rw [show sl (sizeT f) (way f lo) = sm (fun k => sl (fun x => if up f x k then 1 else 0) (way f lo)) f.length from sl_swap (fun x k => if up f x k then 1 else 0) _ _]
  exact sm_congr fun k hk => ring_point hf hl e hk
theorem rot_mu {μ : Txt → Nat} (hμ : ∀ a b, μ (a ++ b) = μ a + μ b) (ss : List Txt) (k : Nat) : μ (rot ss k) = (ss.map μ).sum := by
  have h : (ss.map μ).sum = ((ss.take k).map μ).sum + ((ss.drop k).map μ).sum := by rw [← List.sum_append, ← List.map_append, List.take_append_drop]
  rw [rot, mu_flat hμ, List.map_append, List.sum_append, h, Nat.add_comm]
theorem best_mu {μ : Txt → Nat} (hμ : ∀ a b, μ (a ++ b) = μ a + μ b) (ss : List Txt) : ∀ k, μ (bestT ss k) = (ss.map μ).sum
  | 0 => mu_flat hμ ss
  | k + 1 => by
    rw [bestT]
    split
    · exact rot_mu hμ ss k
    · exact best_mu hμ ss k
theorem loop_mu {μ : Txt → Nat} (hμ : ∀ a b, μ (a ++ b) = μ a + μ b) {f : List Int} (hf : Good f) {n : Nat} (hn : n < f.length) : μ (loopT f n) = cntL f (loopOf f n) f.length * μ [40, 41] := by
  have hl := loopOf_lt hf hn
  have e : (ringT f n).map μ = (way f (loopOf f n)).map fun x => sizeT f x * μ [40, 41] := by
    rw [ringT, List.map_map]
    exact List.map_congr_left fun x hx => tree_mu hμ hf 7 x ((mem_way_on hf hl (loopOf_idem hf hn) x).1 hx).1 (by omega)
  have e2 : ((way f (loopOf f n)).map fun x => sizeT f x * μ [40, 41]).sum = sl (sizeT f) (way f (loopOf f n)) * μ [40, 41] := sl_mul (sizeT f) _ _
  rw [loopT, best_mu hμ, e, e2, ring_sum hf hl (loopOf_idem hf hn)]
theorem loopT_next {f : List Int} (hf : Good f) {n : Nat} (hn : n < f.length) : loopT f (ap f n) = loopT f n := by
  rw [loopT, loopT, ringT, ringT, loopOf_next hf hn]


end Go.Proofs.Ytjipecfoiddkjaa
