/- Plain law: texts in order; texts of trees. -/
import Derived.Test.YtjipecfoiddkjaaX1
import Derived.Test.YtjipecfoiddkjaaS1
import Derived.Lib.Join
namespace Go.Proofs.Ytjipecfoiddkjaa
open Go.RowKit Go.Sort
set_option linter.unusedVariables false

theorem sortT_sorted (ss : List Txt) : (sortT ss).Pairwise (· ≤ ·) := by
  have := List.pairwise_mergeSort (le := fun x y : Txt => decide (x ≤ y)) (fun a b c h1 h2 => decide_eq_true (List.le_trans (of_decide_eq_true h1) (of_decide_eq_true h2))) (fun a b => by
    rcases List.le_total a b with h | h
    · rw [decide_eq_true h]; rfl
    · rw [decide_eq_true h, Bool.or_true]) ss
  exact this.imp fun h => of_decide_eq_true h
theorem sortT_unique {ss l : List Txt} (hp : l.Perm ss) (hs : l.Pairwise (· ≤ ·)) : l = sortT ss :=
  List.Perm.eq_of_pairwise (fun a b _ _ h1 h2 => List.le_antisymm h1 h2) hs (sortT_sorted ss) (hp.trans (sortT_perm ss).symm)
theorem sortT_congr {ss l : List Txt} (h : l.Perm ss) : sortT l = sortT ss := sortT_unique ((sortT_perm l).trans h) (sortT_sorted l)
theorem join_empty (ss : List Txt) : Lib.join ss [] = ss.flatten := by
  cases ss with
  | nil => rfl
  | cons x r => rw [Lib.join_cons, Lib.joinTail]; simp
theorem flat_le {ss : List Txt} {M : Nat} (h : ∀ s ∈ ss, s.length ≤ M) : ss.flatten.length ≤ ss.length * M := by
  induction ss with
  | nil => simp
  | cons x r ih =>
    have h1 := h x (by simp)
    have h2 := ih (fun s hs => h s (List.mem_cons_of_mem _ hs))
    rw [List.flatten_cons, List.length_append, List.length_cons, Nat.succ_mul]
    omega

/-! ### one text sinks to its place -/
/-- z stands at place j of the row P -/
def cur (P : List Txt) (z : Txt) (rest : List Txt) (j : Nat) : List Txt := P.take j ++ z :: (P.drop j ++ rest)
theorem cur_len (P : List Txt) (z : Txt) (rest : List Txt) (j : Nat) : (cur P z rest j).length = P.length + 1 + rest.length := by simp [cur]; omega
theorem cur_end (P : List Txt) (z : Txt) (rest : List Txt) : cur P z rest P.length = P ++ z :: rest := by simp [cur]
theorem cur_at {P : List Txt} {z : Txt} {rest : List Txt} {j : Nat} (h : j ≤ P.length) : (cur P z rest j)[j]? = some z := by
  have : (P.take j).length = j := by simp; omega
  rw [cur, List.getElem?_append_right (by omega), this, Nat.sub_self]; rfl
theorem cur_before {P : List Txt} {z : Txt} {rest : List Txt} {j : Nat} (h : j < P.length) : (cur P z rest (j + 1))[j]? = some P[j] := by
  have : (P.take (j + 1)).length = j + 1 := by simp; omega
  rw [cur, List.getElem?_append_left (by omega), List.getElem?_take_of_lt (by omega), List.getElem?_eq_getElem h]
theorem cur_swap {P : List Txt} {z : Txt} {rest : List Txt} {j : Nat} (h : j < P.length) : ((cur P z rest (j + 1)).set (j + 1) P[j]).set j z = cur P z rest j := by
  apply List.ext_getElem?
  intro i
  have hl := cur_len P z rest (j + 1)
  have e1 : (P.take (j + 1)).length = j + 1 := by simp; omega
  have e2 : (P.take j).length = j := by simp; omega
  rw [List.getElem?_set, List.getElem?_set]
  rw [List.length_set, hl]
  rcases Nat.lt_trichotomy i j with hi | hi | hi
  · rw [if_neg (by omega), if_neg (by omega), cur, cur, List.getElem?_append_left (by omega), List.getElem?_append_left (by omega), List.getElem?_take_of_lt (by omega), List.getElem?_take_of_lt (by omega)]
  · subst hi
    rw [if_pos rfl, if_pos (by omega), cur_at (by omega)]
  · rw [if_neg (by omega)]
    by_cases h3 : i = j + 1
    · subst h3
      rw [if_pos rfl, if_pos (by omega), cur, List.getElem?_append_right (by omega), e2, show j + 1 - j = 0 + 1 by omega, List.getElem?_cons_succ, List.drop_eq_getElem_cons h]
      rfl
    · rw [if_neg (by omega), cur, cur, List.getElem?_append_right (by omega), List.getElem?_append_right (by omega), e1, e2]
      obtain ⟨d, hd⟩ : ∃ d, i = j + 2 + d := ⟨i - (j + 2), by omega⟩
      subst hd
      rw [show j + 2 + d - (j + 1) = d + 1 by omega, show j + 2 + d - j = (d + 1) + 1 by omega, List.getElem?_cons_succ, List.getElem?_cons_succ, List.drop_eq_getElem_cons h, List.cons_append, List.getElem?_cons_succ]
theorem cur_perm (P : List Txt) (z : Txt) (rest : List Txt) (j : Nat) : (cur P z rest j).Perm (P ++ z :: rest) := by
  have h1 : (cur P z rest j).Perm (z :: (P.take j ++ (P.drop j ++ rest))) := List.perm_middle
  have h2 : (P ++ z :: rest).Perm (z :: (P ++ rest)) := List.perm_middle
  rw [← List.append_assoc, List.take_append_drop] at h1
  exact h1.trans h2.symm
/-- where z has come to its place the row is in order -/
theorem cur_sorted {P : List Txt} {z : Txt} {j : Nat} (hP : P.Pairwise (· ≤ ·)) (hj : j ≤ P.length) (h1 : ∀ x ∈ P.drop j, z ≤ x) (h2 : ∀ x ∈ P.take j, x ≤ z) : (P.take j ++ z :: P.drop j).Pairwise (· ≤ ·) := by
  have hP' := hP
  rw [← List.take_append_drop j P, List.pairwise_append] at hP'
  obtain ⟨a, b, c⟩ := hP'
  rw [List.pairwise_append]
  refine ⟨a, List.pairwise_cons.2 ⟨h1, b⟩, fun x hx y hy => ?_⟩
  rcases List.mem_cons.1 hy with rfl | hy
  · exact h2 x hx
  · exact c x hx y hy
theorem take_le {P : List Txt} {z : Txt} {j : Nat} (hP : P.Pairwise (· ≤ ·)) (hj : j < P.length) (h : P[j] ≤ z) : ∀ x ∈ P.take (j + 1), x ≤ z := by
  intro x hx
  obtain ⟨i, hi, rfl⟩ := List.getElem_of_mem hx
  rw [List.getElem_take]
  rw [List.length_take] at hi
  rcases Nat.lt_or_ge i j with h1 | h1
  · exact List.le_trans (List.pairwise_iff_getElem.1 hP i j (by omega) hj h1) h
  · obtain rfl : i = j := by omega
    exact h

/-! ### trees -/
/-- of the first k things those that are led to t and are on no loop -/
def childs (f : List Int) (t k : Nat) : List Nat := (List.range k).filter fun x => nth f x == (t : Int) && !(tail f x == 0)
def treeT (f : List Int) : Nat → Nat → Txt
  | 0, _ => []
  | d + 1, t => 40 :: ((sortT ((childs f t f.length).map (treeT f d))).flatten ++ [41])
def tree (f : List Int) (t : Nat) : Txt := treeT f (7 - tail f t) t
theorem mem_childs {f : List Int} {t k x : Nat} : x ∈ childs f t k ↔ x < k ∧ nth f x = t ∧ tail f x ≠ 0 := by simp [childs]
theorem child_tail {f : List Int} (hf : Good f) {t x : Nat} (h : x ∈ childs f t f.length) : tail f x = tail f t + 1 ∧ x < f.length := by
  obtain ⟨h1, h2, h3⟩ := mem_childs.1 h
  have h4 : ap f x = t := by unfold ap; rw [h2]; simp
  have := tail_next hf h1
  rw [h4] at this
  omega
theorem tree_eq {f : List Int} (hf : Good f) {t : Nat} (ht : t < f.length) : tree f t = 40 :: ((sortT ((childs f t f.length).map (tree f))).flatten ++ [41]) := by
  have h1 := tail_le hf ht
  have h7 := hf.1.2
  have e : (childs f t f.length).map (tree f) = (childs f t f.length).map (treeT f (6 - tail f t)) := List.map_congr_left fun x hx => by
    rw [tree, (child_tail hf hx).1, show 7 - (tail f t + 1) = 6 - tail f t by omega]
  rw [e, tree, show 7 - tail f t = 6 - tail f t + 1 by omega, treeT]
theorem childs_len (f : List Int) (t k : Nat) : (childs f t k).length ≤ k := by unfold childs; exact Nat.le_trans (List.length_filter_le _ _) (by simp)
theorem treeT_len {f : List Int} (h7 : f.length ≤ 7) : ∀ d t, (treeT f d t).length ≤ 16 ^ d
  | 0, t => by simp [treeT]
  | d + 1, t => by
    have h1 : (sortT ((childs f t f.length).map (treeT f d))).flatten.length ≤ (sortT ((childs f t f.length).map (treeT f d))).length * 16 ^ d := flat_le fun s hs => by
      obtain ⟨x, _, rfl⟩ := List.mem_map.1 ((sortT_perm _).mem_iff.1 hs)
      exact treeT_len h7 d x
    rw [sortT_len, List.length_map] at h1
    have h2 := Nat.mul_le_mul_right (16 ^ d) (Nat.le_trans (childs_len f t f.length) h7)
    have h3 : 0 < 16 ^ d := Nat.pow_pos (by omega)
    rw [treeT, List.length_cons, List.length_append, Nat.pow_succ, show ([41] : Txt).length = 1 from rfl]
    omega
theorem tree_len {f : List Int} (h7 : f.length ≤ 7) (t : Nat) : (tree f t).length ≤ 268435456 := Nat.le_trans (treeT_len h7 _ t) (Nat.pow_le_pow_right (n := 16) (by omega) (show 7 - tail f t ≤ 7 by omega))
def treeV (f : List Int) (t : Int) : Txt := if thB f t = true then tree f t.toNat else []
theorem childs_yes {f : List Int} {t k : Nat} (h : nth f k = t) (h2 : tail f k ≠ 0) : childs f t (k + 1) = childs f t k ++ [k] := by
  simp [childs, List.range_succ, List.filter_append, h, h2]
theorem childs_no {f : List Int} {t k : Nat} (h : ¬ (nth f k = t ∧ tail f k ≠ 0)) : childs f t (k + 1) = childs f t k := by
  rw [childs, List.range_succ, List.filter_append]
  have : List.filter (fun x => nth f x == (t : Int) && !(tail f x == 0)) [k] = [] := by
    simp only [List.filter_cons, List.filter_nil]
    rw [if_neg]
    intro h3
    simp at h3
    exact h ⟨h3.1, h3.2⟩
  rw [this, List.append_nil]; rfl
/-- a sum of two texts -/
theorem str_add (a b : Txt) (h : a.length + b.length ≤ 1000000000000) : Op.stringOp .add (bs a) (bs b) = pure (.string (bs (a ++ b))) := by
  rw [Op.stringOp]
  have h1 : ¬ ((((bs a).size + (bs b).size : Nat) : Int) > IntKind.i64.max) := by rw [bs_size, bs_size]; simp [IntKind.max, IntKind.signed, IntKind.bits]; omega
  simp only [h1, if_false]
  have h2 : bs a ++ bs b = bs (a ++ b) := by apply ByteArray.ext; simp [bs]
  rw [h2]

end Go.Proofs.Ytjipecfoiddkjaa
