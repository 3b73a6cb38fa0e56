/- Plain law: how many things hang on a thing; the measures of its tree's text. -/
import Derived.Test.YtjipecfoiddkjaaX2
namespace Go.Proofs.Ytjipecfoiddkjaa
open Go.RowKit Go.Sort
set_option linter.unusedVariables false

def sm (g : Nat → Nat) : Nat → Nat
  | 0 => 0
  | n + 1 => sm g n + g n
def sl (g : Nat → Nat) (l : List Nat) : Nat := (l.map g).sum
theorem sm_congr {g h : Nat → Nat} : ∀ {n : Nat}, (∀ k, k < n → g k = h k) → sm g n = sm h n
  | 0, _ => rfl
  | n + 1, H => by rw [sm, sm, sm_congr (fun k hk => H k (by omega)), H n (by omega)]
theorem sm_add (g h : Nat → Nat) : ∀ n, sm (fun k => g k + h k) n = sm g n + sm h n
  | 0 => rfl
  | n + 1 => by rw [sm, sm, sm, sm_add g h n]; omega
theorem sm_zero : ∀ n, sm (fun _ => 0) n = 0
  | 0 => rfl
  | n + 1 => by rw [sm, sm_zero n]
theorem sm_one {t : Nat} : ∀ {n : Nat}, t < n → sm (fun k => if k = t then 1 else 0) n = 1
  | 0, h => by omega
  | n + 1, h => by
    rw [sm]
    by_cases e : n = t
    · subst e
      rw [sm_congr (h := fun _ => 0) (fun k hk => by rw [if_neg (by omega)]), sm_zero, if_pos rfl]
    · rw [sm_one (by omega), if_neg e]
theorem sm_one_le (g : Nat → Nat) (h : ∀ k, g k ≤ 1) : ∀ n, sm g n ≤ n
  | 0 => Nat.le_refl _
  | n + 1 => by have := sm_one_le g h n; have := h n; rw [sm]; omega
theorem sl_cons (g : Nat → Nat) (x : Nat) (l : List Nat) : sl g (x :: l) = g x + sl g l := by simp [sl]
theorem sl_congr {g h : Nat → Nat} : ∀ {l : List Nat}, (∀ k ∈ l, g k = h k) → sl g l = sl h l
  | [], _ => rfl
  | x :: l, H => by rw [sl_cons, sl_cons, H x (by simp), sl_congr (fun k hk => H k (by simp [hk]))]
theorem sl_mul (g : Nat → Nat) (m : Nat) : ∀ l, sl (fun k => g k * m) l = sl g l * m
  | [] => by simp [sl]
  | x :: l => by rw [sl_cons, sl_cons, sl_mul g m l, Nat.add_mul]
theorem sl_zero (l : List Nat) : sl (fun _ => 0) l = 0 := by
  induction l with
  | nil => rfl
  | cons x l ih => rw [sl_cons, ih]
theorem sl_swap (h : Nat → Nat → Nat) (n : Nat) : ∀ l, sl (fun c => sm (h c) n) l = sm (fun k => sl (fun c => h c k) l) n
  | [] => by rw [show (fun k => sl (fun c => h c k) []) = fun _ => 0 from rfl, sm_zero]; rfl
  | x :: l => by
    rw [sl_cons, sl_swap h n l, ← sm_add]
    exact sm_congr fun k _ => (sl_cons (fun c => h c k) x l).symm
theorem sl_ind (c0 : Nat) : ∀ {l : List Nat}, l.Nodup → sl (fun c => if c = c0 then 1 else 0) l = if c0 ∈ l then 1 else 0
  | [], _ => by simp [sl]
  | x :: l, h => by
    rw [List.nodup_cons] at h
    rw [sl_cons, sl_ind c0 h.2]
    by_cases e : x = c0
    · subst e
      rw [if_pos rfl, if_neg h.1, if_pos (by simp)]
    · rw [if_neg e]
      by_cases h2 : c0 ∈ l
      · rw [if_pos h2, if_pos (by simp [h2])]
      · rw [if_neg h2, if_neg (by simp [h2]; omega)]

/-- k comes to x before it has been on a loop (or where it first is) -/
def up (f : List Int) (x k : Nat) : Prop := tail f x ≤ tail f k ∧ it f (tail f k - tail f x) k = x
instance (f : List Int) (x k : Nat) : Decidable (up f x k) := by unfold up; exact inferInstance
def sizeT (f : List Int) (x : Nat) : Nat := sm (fun k => if up f x k then 1 else 0) f.length
theorem childs_nodup (f : List Int) (t k : Nat) : (childs f t k).Nodup := List.Nodup.sublist List.filter_sublist List.nodup_range
theorem size_point {f : List Int} (hf : Good f) {t k : Nat} (ht : t < f.length) (hk : k < f.length) :
    (if k = t then 1 else 0) + sl (fun c => if up f c k then 1 else 0) (childs f t f.length) = if up f t k then 1 else 0 := by
  by_cases h1 : tail f t < tail f k
  · have hkt : ¬ k = t := fun e => by subst e; omega
    rw [if_neg hkt, Nat.zero_add]
    have hb : tail f (it f (tail f k - tail f t - 1) k) = tail f t + 1 := by rw [tail_it_eq hf hk]; omega
    have e1 : sl (fun c => if up f c k then 1 else 0) (childs f t f.length) = sl (fun c => if c = it f (tail f k - tail f t - 1) k then 1 else 0) (childs f t f.length) := sl_congr fun c hc => by
      have h2 := (child_tail hf hc).1
      have : up f c k ↔ c = it f (tail f k - tail f t - 1) k := by
        unfold up
        rw [h2, show tail f k - (tail f t + 1) = tail f k - tail f t - 1 by omega]
        exact ⟨fun h => h.2.symm, fun h => ⟨by omega, h.symm⟩⟩
      by_cases h3 : up f c k
      · rw [if_pos h3, if_pos (this.1 h3)]
      · rw [if_neg h3, if_neg (fun h => h3 (this.2 h))]
    rw [e1, sl_ind _ (childs_nodup _ _ _)]
    have hlt := hf.it_lt hk (tail f k - tail f t - 1)
    have : it f (tail f k - tail f t - 1) k ∈ childs f t f.length ↔ up f t k := by
      rw [mem_childs, hf.nth_ap hlt]
      unfold up
      have e2 : ap f (it f (tail f k - tail f t - 1) k) = it f (tail f k - tail f t) k := by
        have h9 : tail f k - tail f t = 1 + (tail f k - tail f t - 1) := by omega
        generalize tail f k - tail f t - 1 = D at *
        rw [h9, it_add, it_one]
      rw [e2]
      exact ⟨fun h => ⟨by omega, by have := h.2.1; omega⟩, fun h => ⟨hlt, by have := h.2; omega, by omega⟩⟩
    by_cases h3 : up f t k
    · rw [if_pos h3, if_pos (this.2 h3)]
    · rw [if_neg h3, if_neg (fun h => h3 (this.1 h))]
  · have e1 : sl (fun c => if up f c k then 1 else 0) (childs f t f.length) = sl (fun _ => 0) (childs f t f.length) := sl_congr fun c hc => by
      have h2 := (child_tail hf hc).1
      rw [if_neg (fun h => by have := h.1; omega)]
    rw [e1, sl_zero, Nat.add_zero]
    by_cases hkt : k = t
    · subst hkt
      rw [if_pos rfl, if_pos ⟨Nat.le_refl _, by rw [Nat.sub_self]; rfl⟩]
    · rw [if_neg hkt, if_neg]
      rintro ⟨h2, h3⟩
      rw [show tail f k - tail f t = 0 by omega] at h3
      exact hkt h3
theorem size_eq {f : List Int} (hf : Good f) {t : Nat} (ht : t < f.length) : sizeT f t = 1 + sl (sizeT f) (childs f t f.length) := by
  have e1 : sl (sizeT f) (childs f t f.length) = sm (fun k => sl (fun c => if up f c k then 1 else 0) (childs f t f.length)) f.length := sl_swap (fun c k => if up f c k then 1 else 0) _ _
  have e0 := sm_add (fun k => if k = t then 1 else 0) (fun k => sl (fun c => if up f c k then 1 else 0) (childs f t f.length)) f.length
  rw [sm_one ht] at e0
  rw [e1, ← e0, sizeT]
  exact sm_congr fun k hk => (size_point hf ht hk).symm

/-! ### what is additive over texts -/
theorem mu_nil {μ : Txt → Nat} (hμ : ∀ a b, μ (a ++ b) = μ a + μ b) : μ [] = 0 := by have := hμ [] []; simp at this; omega
theorem mu_flat {μ : Txt → Nat} (hμ : ∀ a b, μ (a ++ b) = μ a + μ b) : ∀ l : List Txt, μ l.flatten = (l.map μ).sum
  | [] => by simp [mu_nil hμ]
  | x :: l => by rw [List.flatten_cons, hμ, mu_flat hμ l]; simp
theorem mu_sort {μ : Txt → Nat} (hμ : ∀ a b, μ (a ++ b) = μ a + μ b) (l : List Txt) : μ (sortT l).flatten = (l.map μ).sum := by
  rw [mu_flat hμ]
  exact ((sortT_perm l).map μ).sum_nat
theorem tree_mu {μ : Txt → Nat} (hμ : ∀ a b, μ (a ++ b) = μ a + μ b) {f : List Int} (hf : Good f) (d : Nat) : ∀ t, t < f.length → 7 ≤ tail f t + d → μ (tree f t) = sizeT f t * μ [40, 41] := by
  induction d with
  | zero => intro t ht hd; have := tail_le hf ht; have := hf.1.2; omega
  | succ d ih =>
    intro t ht hd
    have e : ((childs f t f.length).map (tree f)).map μ = (childs f t f.length).map fun c => sizeT f c * μ [40, 41] := by
      rw [List.map_map]
      exact List.map_congr_left fun c hc => ih c (mem_childs.1 hc).1 (by have := (child_tail hf hc).1; omega)
    have e2 : ((childs f t f.length).map fun c => sizeT f c * μ [40, 41]).sum = sl (sizeT f) (childs f t f.length) * μ [40, 41] := sl_mul (sizeT f) _ _
    have e3 : μ [40, 41] = μ [40] + μ [41] := hμ [40] [41]
    rw [tree_eq hf ht, show (40 :: ((sortT ((childs f t f.length).map (tree f))).flatten ++ [41]) : Txt) = [40] ++ ((sortT ((childs f t f.length).map (tree f))).flatten ++ [41]) from rfl, hμ, hμ, mu_sort hμ, e, e2, size_eq hf ht, Nat.add_mul, Nat.one_mul, e3]
    omega
theorem tree_size {f : List Int} (hf : Good f) {t : Nat} (ht : t < f.length) : (tree f t).length = 2 * sizeT f t := by
  rw [tree_mu (μ := List.length) (fun a b => List.length_append) hf 7 t ht (by omega), Nat.mul_comm]; rfl

end Go.Proofs.Ytjipecfoiddkjaa
