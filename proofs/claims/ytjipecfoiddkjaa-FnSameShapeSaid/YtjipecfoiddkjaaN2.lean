/- Plain law: maps of at most five things that have one shape differ by names alone: by tables of the shapes and of the orders, which the kernel checks. No program in sight. -/
import Derived.Test.YtjipecfoiddkjaaN1
namespace Go.Proofs.Ytjipecfoiddkjaa
open Go.RowKit Go.Sort
set_option linter.unusedVariables false

def insT1 (x : Txt) : List Txt → List Txt
  | [] => [x]
  | y :: r => if x ≤ y then x :: y :: r else y :: insT1 x r
def insT : List Txt → List Txt
  | [] => []
  | x :: r => insT1 x (insT r)
theorem insT1_perm (x : Txt) : ∀ r, (insT1 x r).Perm (x :: r)
  | [] => List.Perm.refl _
  | y :: r => by
    rw [insT1]
    split
    · exact List.Perm.refl _
    · exact ((insT1_perm x r).cons y).trans (List.Perm.swap x y r)
theorem insT1_sorted (x : Txt) : ∀ r, r.Pairwise (· ≤ ·) → (insT1 x r).Pairwise (· ≤ ·)
  | [], _ => List.pairwise_singleton _ _
  | y :: r, h => by
    obtain ⟨h1, h2⟩ := List.pairwise_cons.1 h
    rw [insT1]
    split
    · rename_i hxy
      refine List.pairwise_cons.2 ⟨fun z hz => ?_, h⟩
      rcases List.mem_cons.1 hz with rfl | hz
      · exact hxy
      · exact List.le_trans hxy (h1 z hz)
    · rename_i hxy
      refine List.pairwise_cons.2 ⟨fun z hz => ?_, insT1_sorted x r h2⟩
      rcases List.mem_cons.1 ((insT1_perm x r).mem_iff.1 hz) with rfl | hz
      · rcases List.le_total y z with h3 | h3
        · exact h3
        · exact absurd h3 hxy
      · exact h1 z hz
theorem insT_eq : ∀ ss, insT ss = sortT ss := fun ss => by
  have hp : ∀ ss, (insT ss).Perm ss := fun ss => by
    induction ss with
    | nil => exact List.Perm.refl _
    | cons x r ih => exact (insT1_perm x _).trans (ih.cons x)
  have hs : ∀ ss, (insT ss).Pairwise (· ≤ ·) := fun ss => by
    induction ss with
    | nil => exact List.Pairwise.nil
    | cons x r ih => exact insT1_sorted x _ ih
  exact sortT_unique (hp ss) (hs ss)
def treeK (f : List Int) : Nat → Nat → Txt
  | 0, _ => []
  | d + 1, t => 40 :: ((insT ((childs f t f.length).map (treeK f d))).flatten ++ [41])
theorem treeK_eq (f : List Int) : ∀ d t, treeK f d t = treeT f d t
  | 0, _ => rfl
  | d + 1, t => by
    rw [treeK, treeT, insT_eq, show treeK f d = treeT f d from funext (treeK_eq f d)]
def ringK (f : List Int) (n : Nat) : List Txt := (way f (loopOf f n)).map fun t => treeK f (7 - tail f t) t
theorem ringK_eq (f : List Int) (n : Nat) : ringK f n = ringT f n := by
  rw [ringK, ringT]
  exact List.map_congr_left fun t _ => treeK_eq f _ t
def bestK (ss : List Txt) (n : Nat) : Txt := bestT ss n
def shapeK (f : List Int) : Txt := Lib.join (insT ((mins f).map fun t => bestT (ringK f t) (ringK f t).length)) [43]
theorem shapeK_eq {f : List Int} (hf : Good f) : shapeK f = shapeT f := by
  rw [shapeK, shapeT, insT_eq, loopsT_mins hf]
  congr 2
  exact List.map_congr_left fun t _ => by rw [ringK_eq, loopT]
def codeT : Txt → Nat
  | [] => 0
  | b :: r => b.toNat + 256 * codeT r

def getN (l : List Nat) (k : Nat) : Nat := l.getD k 0
def conjK (n : Nat) (r p q : List Nat) : List Nat := (List.range n).map fun x => getN p (getN r (getN q x))
def codeK (n : Nat) : List Nat → Nat
  | [] => 0
  | a :: l => a + n * codeK n l
def orK : List Nat → Nat
  | [] => 0
  | c :: l => (1 <<< c) ||| orK l
def orL : List Nat → Nat
  | [] => 0
  | c :: l => c ||| orL l
def covK (n : Nat) (reps : List (List Nat)) (perms : List (List Nat × List Nat)) : Nat := orL (reps.map fun r => orK (perms.map fun pq => codeK n (conjK n r pq.1 pq.2)))
def rowB (n : Nat) (r : List Nat) : Bool := decide (r.length = n) && r.all fun x => decide (x < n)
structure Tab (n : Nat) (reps : List (List Nat)) (perms : List (List Nat × List Nat)) (lits : List Nat) : Prop where
  hr : (reps.all fun r => rowB n r) = true
  hp : (perms.all fun pq => rowB n pq.1 && rowB n pq.2 && (List.range n).all fun k => getN pq.2 (getN pq.1 k) == k) = true
  cov : covK n reps perms = 2 ^ n ^ n - 1
  dist : (reps.map fun r => codeT (shapeK (ints r))) = lits
  nd : lits.Nodup

theorem orK_mem {c : Nat} : ∀ {l : List Nat}, (orK l).testBit c = true → c ∈ l
  | [], h => by simp [orK] at h
  | a :: l, h => by
    rw [orK, Nat.testBit_or, Bool.or_eq_true] at h
    rcases h with h | h
    · rw [Nat.one_shiftLeft, Nat.testBit_two_pow] at h
      have : a = c := by simpa using h
      rw [this]; exact List.mem_cons_self
    · exact List.mem_cons_of_mem _ (orK_mem h)
theorem orL_mem {c : Nat} : ∀ {l : List Nat}, (orL l).testBit c = true → ∃ m ∈ l, m.testBit c = true
  | [], h => by simp [orL] at h
  | a :: l, h => by
    rw [orL, Nat.testBit_or, Bool.or_eq_true] at h
    rcases h with h | h
    · exact ⟨a, List.mem_cons_self, h⟩
    · obtain ⟨m, h1, h2⟩ := orL_mem h
      exact ⟨m, List.mem_cons_of_mem _ h1, h2⟩
theorem codeK_lt {n : Nat} : ∀ {l : List Nat}, (∀ x ∈ l, x < n) → codeK n l < n ^ l.length
  | [], _ => by simp [codeK]
  | a :: l, h => by
    have h1 := h a List.mem_cons_self
    have h2 := codeK_lt fun x hx => h x (List.mem_cons_of_mem _ hx)
    rw [codeK, List.length_cons, Nat.pow_succ, Nat.mul_comm _ n]
    have h3 := Nat.mul_le_mul_left n h2
    rw [Nat.mul_succ] at h3
    omega
theorem codeK_inj {n : Nat} : ∀ {l m : List Nat}, (∀ x ∈ l, x < n) → (∀ x ∈ m, x < n) → l.length = m.length → codeK n l = codeK n m → l = m
  | [], [], _, _, _, _ => rfl
  | [], _ :: _, _, _, h, _ => by simp at h
  | _ :: _, [], _, _, h, _ => by simp at h
  | a :: l, b :: m, h1, h2, hl, h => by
    have ha := h1 a List.mem_cons_self
    have hb := h2 b List.mem_cons_self
    rw [codeK, codeK] at h
    have e1 : (a + n * codeK n l) % n = (b + n * codeK n m) % n := by rw [h]
    rw [Nat.add_mul_mod_self_left, Nat.add_mul_mod_self_left, Nat.mod_eq_of_lt ha, Nat.mod_eq_of_lt hb] at e1
    subst e1
    have e2 : codeK n l = codeK n m := Nat.eq_of_mul_eq_mul_left (show 0 < n by omega) (by omega)
    rw [codeK_inj (fun x hx => h1 x (List.mem_cons_of_mem _ hx)) (fun x hx => h2 x (List.mem_cons_of_mem _ hx)) (by simpa using hl) e2]
theorem getN_lt {n : Nat} {l : List Nat} (h : rowB n l = true) {k : Nat} (hk : k < n) : getN l k < n := by
  simp only [rowB, Bool.and_eq_true, decide_eq_true_eq, List.all_eq_true] at h
  rw [getN, List.getD_eq_getElem?_getD, List.getElem?_eq_getElem (by omega)]
  exact h.2 _ (List.getElem_mem _)
theorem row_len {n : Nat} {l : List Nat} (h : rowB n l = true) : l.length = n := by
  simp only [rowB, Bool.and_eq_true, decide_eq_true_eq] at h
  exact h.1
theorem ap_row {n : Nat} {l : List Nat} (h : rowB n l = true) {k : Nat} (hk : k < n) : ap (ints l) k = getN l k := by
  have hl := row_len h
  rw [ap, nth_ints (by omega), getN, List.getD_eq_getElem?_getD, List.getElem?_eq_getElem (by omega)]
  simp
theorem good_row {n : Nat} (h1 : 1 ≤ n) (h7 : n ≤ 7) {l : List Nat} (h : rowB n l = true) : Good (ints l) := by
  have hl := row_len h
  refine ⟨by rw [ints_len]; omega, fun k hk => ?_⟩
  rw [ints_len] at hk
  have := getN_lt h (k := k) (by omega)
  rw [nth_ints hk, ints_len]
  rw [getN, List.getD_eq_getElem?_getD, List.getElem?_eq_getElem hk] at this
  simp at this
  omega
section
variable {n : Nat} {reps : List (List Nat)} {perms : List (List Nat × List Nat)} {lits : List Nat}
theorem Tab.rep (T : Tab n reps perms lits) (h1 : 1 ≤ n) (h7 : n ≤ 7) {f : List Int} (hf : Good f) (hl : f.length = n) : ∃ r ∈ reps, ∃ p, Ren (ints r) f p := by
  have hF : ∀ x ∈ (List.range n).map (ap f), x < n := fun x hx => by
    obtain ⟨k, hk, rfl⟩ := List.mem_map.1 hx
    have := hf.ap_lt (k := k) (by rw [hl]; exact List.mem_range.1 hk)
    omega
  have hb : (covK n reps perms).testBit (codeK n ((List.range n).map (ap f))) = true := by
    have := codeK_lt hF
    rw [List.length_map, List.length_range] at this
    rw [T.cov, Nat.testBit_two_pow_sub_one]
    exact decide_eq_true this
  obtain ⟨m, hm, h2⟩ := orL_mem hb
  obtain ⟨r, hr, rfl⟩ := List.mem_map.1 hm
  obtain ⟨pq, hpq, e⟩ := List.mem_map.1 (orK_mem h2)
  have hrow := List.all_eq_true.1 T.hr r hr
  have hpp := List.all_eq_true.1 T.hp pq hpq
  simp only [Bool.and_eq_true, List.all_eq_true, List.mem_range, beq_iff_eq] at hpp
  obtain ⟨⟨hp, hq⟩, hqp⟩ := hpp
  have hlp := row_len hp
  have hlr := row_len hrow
  have e2 := codeK_inj (fun x hx => by
    obtain ⟨k, hk, rfl⟩ := List.mem_map.1 hx
    exact getN_lt hp (getN_lt hrow (getN_lt hq (List.mem_range.1 hk)))) hF (by simp [conjK]) e
  have e3 : ∀ x, x < n → getN pq.1 (getN r (getN pq.2 x)) = ap f x := fun x hx => by
    have := congrArg (fun l => l[x]?) e2
    simpa [conjK, hx] using this
  refine ⟨r, hr, ints pq.1, good_row h1 h7 hrow, hf, good_row h1 h7 hp, fun i j hi hj h => ?_, by rw [ints_len, ints_len]; omega, by rw [ints_len]; omega, fun k hk => ?_⟩
  · rw [ints_len] at hi hj
    rw [ap_row hp (by omega), ap_row hp (by omega)] at h
    rw [← hqp i (by omega), h, hqp j (by omega)]
  · rw [ints_len, hlr] at hk
    rw [ap_row hp hk, ap_row hrow hk, ap_row hp (getN_lt hrow hk), ← e3 _ (getN_lt hp hk), hqp k hk]
theorem map_inj {α : Type} {F : α → Nat} : ∀ {l : List α}, (l.map F).Nodup → ∀ {a b : α}, a ∈ l → b ∈ l → F a = F b → a = b
  | [], _, _, _, h, _, _ => by simp at h
  | x :: l, hn, a, b, ha, hb, e => by
    rw [List.map_cons, List.nodup_cons] at hn
    have h0 : ∀ y, y ∈ l → F x ≠ F y := fun y hy h => hn.1 (List.mem_map.2 ⟨y, hy, h.symm⟩)
    rcases List.mem_cons.1 ha with h1 | h1
    · rcases List.mem_cons.1 hb with h2 | h2
      · rw [h1, h2]
      · exact absurd (by rw [← h1]; exact e) (h0 b h2)
    · rcases List.mem_cons.1 hb with h2 | h2
      · exact absurd (by rw [← h2]; exact e.symm) (h0 a h1)
      · exact map_inj hn.2 h1 h2 e
theorem Tab.main (T : Tab n reps perms lits) (h1 : 1 ≤ n) (h7 : n ≤ 7) {f g : List Int} (hf : Good f) (hg : Good g) (hl : f.length = n) (hl' : g.length = n) (h : shapeT f = shapeT g) : ∃ p, Ren f g p := by
  obtain ⟨r, hr, p, R⟩ := T.rep h1 h7 hf hl
  obtain ⟨s, hs, q, S⟩ := T.rep h1 h7 hg hl'
  have e : r = s := map_inj (by rw [T.dist]; exact T.nd) hr hs (by
    show codeT (shapeK (ints r)) = codeT (shapeK (ints s))
    rw [shapeK_eq R.hf, shapeK_eq S.hf, ← R.shapeT, ← S.shapeT, h])
  subst e
  exact ⟨_, R.back.trans S⟩
end

def reps1 : List (List Nat) := [[0]]
def perms1 : List (List Nat × List Nat) := [([0], [0])]
def lits1 : List Nat := [10536]
theorem tab1 : Tab 1 reps1 perms1 lits1 := ⟨by decide +kernel, by decide +kernel, by decide +kernel, by decide +kernel, by decide +kernel⟩
def reps2 : List (List Nat) := [[0, 0], [0, 1], [1, 0]]
def perms2 : List (List Nat × List Nat) := [([0, 1], [0, 1]), ([1, 0], [1, 0])]
def lits2 : List Nat := [690563112, 176767576360, 690497832]
theorem tab2 : Tab 2 reps2 perms2 lits2 := ⟨by decide +kernel, by decide +kernel, by decide +kernel, by decide +kernel, by decide +kernel⟩
def reps3 : List (List Nat) := [[0, 0, 0], [0, 0, 1], [0, 0, 2], [0, 1, 2], [0, 2, 1], [1, 0, 0], [1, 2, 0]]
def perms3 : List (List Nat × List Nat) := [([0, 1, 2], [0, 1, 2]), ([0, 2, 1], [0, 2, 1]), ([1, 0, 2], [1, 0, 2]), ([1, 2, 0], [2, 0, 1]), ([2, 0, 1], [1, 2, 0]), ([2, 1, 0], [2, 1, 0])]
def lits3 : List Nat := [45256744183848, 45256760895528, 11584639884404776, 2965667810391042344, 11584631277824296, 45252465993768, 45252465928488]
theorem tab3 : Tab 3 reps3 perms3 lits3 := ⟨by decide +kernel, by decide +kernel, by decide +kernel, by decide +kernel, by decide +kernel⟩
def reps4 : List (List Nat) := [[0, 0, 0, 0], [0, 0, 0, 1], [0, 0, 0, 3], [0, 0, 1, 1], [0, 0, 1, 2], [0, 0, 1, 3], [0, 0, 2, 2], [0, 0, 2, 3], [0, 0, 3, 2], [0, 1, 2, 3], [0, 1, 3, 2], [0, 2, 1, 1], [0, 2, 3, 1], [1, 0, 0, 0], [1, 0, 0, 1], [1, 0, 0, 2], [1, 0, 3, 2], [1, 2, 0, 0], [1, 2, 3, 0]]
def perms4 : List (List Nat × List Nat) := [([0, 1, 2, 3], [0, 1, 2, 3]), ([0, 1, 3, 2], [0, 1, 3, 2]), ([0, 2, 1, 3], [0, 2, 1, 3]), ([0, 2, 3, 1], [0, 3, 1, 2]), ([0, 3, 1, 2], [0, 2, 3, 1]), ([0, 3, 2, 1], [0, 3, 2, 1]), ([1, 0, 2, 3], [1, 0, 2, 3]), ([1, 0, 3, 2], [1, 0, 3, 2]), ([1, 2, 0, 3], [2, 0, 1, 3]), ([1, 2, 3, 0], [3, 0, 1, 2]), ([1, 3, 0, 2], [2, 0, 3, 1]), ([1, 3, 2, 0], [3, 0, 2, 1]), ([2, 0, 1, 3], [1, 2, 0, 3]), ([2, 0, 3, 1], [1, 3, 0, 2]), ([2, 1, 0, 3], [2, 1, 0, 3]), ([2, 1, 3, 0], [3, 1, 0, 2]), ([2, 3, 0, 1], [2, 3, 0, 1]), ([2, 3, 1, 0], [3, 2, 0, 1]), ([3, 0, 1, 2], [1, 2, 3, 0]), ([3, 0, 2, 1], [1, 3, 2, 0]), ([3, 1, 0, 2], [2, 1, 3, 0]), ([3, 1, 2, 0], [3, 1, 2, 0]), ([3, 2, 0, 1], [2, 3, 1, 0]), ([3, 2, 1, 0], [3, 2, 1, 0])]
def lits4 : List Nat := [2965945986832738344, 2965945986849450024, 759210959464351475752, 2965947082066110504, 2965947086344300584, 759210959464368187432, 759282171542554355752, 194358005621787351132200, 759210395423493138472, 49755649439177561873262888, 194357861228414226868520, 759210959460073285672, 759210395414886557992, 2965665611367655464, 2965945982554548264, 2965665611384367144, 759210395423493073192, 2965665607089465384, 2965665607089400104]
theorem tab4 : Tab 4 reps4 perms4 lits4 := ⟨by decide +kernel, by decide +kernel, by decide +kernel, by decide +kernel, by decide +kernel⟩
def reps5 : List (List Nat) := [[0, 0, 0, 0, 0], [0, 0, 0, 0, 1], [0, 0, 0, 0, 4], [0, 0, 0, 1, 1], [0, 0, 0, 1, 2], [0, 0, 0, 1, 3], [0, 0, 0, 1, 4], [0, 0, 0, 3, 3], [0, 0, 0, 3, 4], [0, 0, 0, 4, 3], [0, 0, 1, 1, 1], [0, 0, 1, 1, 2], [0, 0, 1, 1, 4], [0, 0, 1, 2, 2], [0, 0, 1, 2, 3], [0, 0, 1, 2, 4], [0, 0, 1, 3, 3], [0, 0, 1, 3, 4], [0, 0, 1, 4, 3], [0, 0, 2, 2, 4], [0, 0, 2, 3, 4], [0, 0, 2, 4, 3], [0, 0, 3, 2, 2], [0, 0, 3, 4, 2], [0, 1, 2, 3, 4], [0, 1, 2, 4, 3], [0, 1, 3, 2, 2], [0, 1, 3, 4, 2], [0, 2, 1, 1, 1], [0, 2, 1, 1, 2], [0, 2, 1, 1, 3], [0, 2, 1, 4, 3], [0, 2, 3, 1, 1], [0, 2, 3, 4, 1], [1, 0, 0, 0, 0], [1, 0, 0, 0, 1], [1, 0, 0, 0, 2], [1, 0, 0, 1, 2], [1, 0, 0, 2, 2], [1, 0, 0, 2, 3], [1, 0, 0, 4, 3], [1, 0, 3, 4, 2], [1, 2, 0, 0, 0], [1, 2, 0, 0, 1], [1, 2, 0, 0, 3], [1, 2, 3, 0, 0], [1, 2, 3, 4, 0]]
def perms5 : List (List Nat × List Nat) := [([0, 1, 2, 3, 4], [0, 1, 2, 3, 4]), ([0, 1, 2, 4, 3], [0, 1, 2, 4, 3]), ([0, 1, 3, 2, 4], [0, 1, 3, 2, 4]), ([0, 1, 3, 4, 2], [0, 1, 4, 2, 3]), ([0, 1, 4, 2, 3], [0, 1, 3, 4, 2]), ([0, 1, 4, 3, 2], [0, 1, 4, 3, 2]), ([0, 2, 1, 3, 4], [0, 2, 1, 3, 4]), ([0, 2, 1, 4, 3], [0, 2, 1, 4, 3]), ([0, 2, 3, 1, 4], [0, 3, 1, 2, 4]), ([0, 2, 3, 4, 1], [0, 4, 1, 2, 3]), ([0, 2, 4, 1, 3], [0, 3, 1, 4, 2]), ([0, 2, 4, 3, 1], [0, 4, 1, 3, 2]), ([0, 3, 1, 2, 4], [0, 2, 3, 1, 4]), ([0, 3, 1, 4, 2], [0, 2, 4, 1, 3]), ([0, 3, 2, 1, 4], [0, 3, 2, 1, 4]), ([0, 3, 2, 4, 1], [0, 4, 2, 1, 3]), ([0, 3, 4, 1, 2], [0, 3, 4, 1, 2]), ([0, 3, 4, 2, 1], [0, 4, 3, 1, 2]), ([0, 4, 1, 2, 3], [0, 2, 3, 4, 1]), ([0, 4, 1, 3, 2], [0, 2, 4, 3, 1]), ([0, 4, 2, 1, 3], [0, 3, 2, 4, 1]), ([0, 4, 2, 3, 1], [0, 4, 2, 3, 1]), ([0, 4, 3, 1, 2], [0, 3, 4, 2, 1]), ([0, 4, 3, 2, 1], [0, 4, 3, 2, 1]), ([1, 0, 2, 3, 4], [1, 0, 2, 3, 4]), ([1, 0, 2, 4, 3], [1, 0, 2, 4, 3]), ([1, 0, 3, 2, 4], [1, 0, 3, 2, 4]), ([1, 0, 3, 4, 2], [1, 0, 4, 2, 3]), ([1, 0, 4, 2, 3], [1, 0, 3, 4, 2]), ([1, 0, 4, 3, 2], [1, 0, 4, 3, 2]), ([1, 2, 0, 3, 4], [2, 0, 1, 3, 4]), ([1, 2, 0, 4, 3], [2, 0, 1, 4, 3]), ([1, 2, 3, 0, 4], [3, 0, 1, 2, 4]), ([1, 2, 3, 4, 0], [4, 0, 1, 2, 3]), ([1, 2, 4, 0, 3], [3, 0, 1, 4, 2]), ([1, 2, 4, 3, 0], [4, 0, 1, 3, 2]), ([1, 3, 0, 2, 4], [2, 0, 3, 1, 4]), ([1, 3, 0, 4, 2], [2, 0, 4, 1, 3]), ([1, 3, 2, 0, 4], [3, 0, 2, 1, 4]), ([1, 3, 2, 4, 0], [4, 0, 2, 1, 3]), ([1, 3, 4, 0, 2], [3, 0, 4, 1, 2]), ([1, 3, 4, 2, 0], [4, 0, 3, 1, 2]), ([1, 4, 0, 2, 3], [2, 0, 3, 4, 1]), ([1, 4, 0, 3, 2], [2, 0, 4, 3, 1]), ([1, 4, 2, 0, 3], [3, 0, 2, 4, 1]), ([1, 4, 2, 3, 0], [4, 0, 2, 3, 1]), ([1, 4, 3, 0, 2], [3, 0, 4, 2, 1]), ([1, 4, 3, 2, 0], [4, 0, 3, 2, 1]), ([2, 0, 1, 3, 4], [1, 2, 0, 3, 4]), ([2, 0, 1, 4, 3], [1, 2, 0, 4, 3]), ([2, 0, 3, 1, 4], [1, 3, 0, 2, 4]), ([2, 0, 3, 4, 1], [1, 4, 0, 2, 3]), ([2, 0, 4, 1, 3], [1, 3, 0, 4, 2]), ([2, 0, 4, 3, 1], [1, 4, 0, 3, 2]), ([2, 1, 0, 3, 4], [2, 1, 0, 3, 4]), ([2, 1, 0, 4, 3], [2, 1, 0, 4, 3]), ([2, 1, 3, 0, 4], [3, 1, 0, 2, 4]), ([2, 1, 3, 4, 0], [4, 1, 0, 2, 3]), ([2, 1, 4, 0, 3], [3, 1, 0, 4, 2]), ([2, 1, 4, 3, 0], [4, 1, 0, 3, 2]), ([2, 3, 0, 1, 4], [2, 3, 0, 1, 4]), ([2, 3, 0, 4, 1], [2, 4, 0, 1, 3]), ([2, 3, 1, 0, 4], [3, 2, 0, 1, 4]), ([2, 3, 1, 4, 0], [4, 2, 0, 1, 3]), ([2, 3, 4, 0, 1], [3, 4, 0, 1, 2]), ([2, 3, 4, 1, 0], [4, 3, 0, 1, 2]), ([2, 4, 0, 1, 3], [2, 3, 0, 4, 1]), ([2, 4, 0, 3, 1], [2, 4, 0, 3, 1]), ([2, 4, 1, 0, 3], [3, 2, 0, 4, 1]), ([2, 4, 1, 3, 0], [4, 2, 0, 3, 1]), ([2, 4, 3, 0, 1], [3, 4, 0, 2, 1]), ([2, 4, 3, 1, 0], [4, 3, 0, 2, 1]), ([3, 0, 1, 2, 4], [1, 2, 3, 0, 4]), ([3, 0, 1, 4, 2], [1, 2, 4, 0, 3]), ([3, 0, 2, 1, 4], [1, 3, 2, 0, 4]), ([3, 0, 2, 4, 1], [1, 4, 2, 0, 3]), ([3, 0, 4, 1, 2], [1, 3, 4, 0, 2]), ([3, 0, 4, 2, 1], [1, 4, 3, 0, 2]), ([3, 1, 0, 2, 4], [2, 1, 3, 0, 4]), ([3, 1, 0, 4, 2], [2, 1, 4, 0, 3]), ([3, 1, 2, 0, 4], [3, 1, 2, 0, 4]), ([3, 1, 2, 4, 0], [4, 1, 2, 0, 3]), ([3, 1, 4, 0, 2], [3, 1, 4, 0, 2]), ([3, 1, 4, 2, 0], [4, 1, 3, 0, 2]), ([3, 2, 0, 1, 4], [2, 3, 1, 0, 4]), ([3, 2, 0, 4, 1], [2, 4, 1, 0, 3]), ([3, 2, 1, 0, 4], [3, 2, 1, 0, 4]), ([3, 2, 1, 4, 0], [4, 2, 1, 0, 3]), ([3, 2, 4, 0, 1], [3, 4, 1, 0, 2]), ([3, 2, 4, 1, 0], [4, 3, 1, 0, 2]), ([3, 4, 0, 1, 2], [2, 3, 4, 0, 1]), ([3, 4, 0, 2, 1], [2, 4, 3, 0, 1]), ([3, 4, 1, 0, 2], [3, 2, 4, 0, 1]), ([3, 4, 1, 2, 0], [4, 2, 3, 0, 1]), ([3, 4, 2, 0, 1], [3, 4, 2, 0, 1]), ([3, 4, 2, 1, 0], [4, 3, 2, 0, 1]), ([4, 0, 1, 2, 3], [1, 2, 3, 4, 0]), ([4, 0, 1, 3, 2], [1, 2, 4, 3, 0]), ([4, 0, 2, 1, 3], [1, 3, 2, 4, 0]), ([4, 0, 2, 3, 1], [1, 4, 2, 3, 0]), ([4, 0, 3, 1, 2], [1, 3, 4, 2, 0]), ([4, 0, 3, 2, 1], [1, 4, 3, 2, 0]), ([4, 1, 0, 2, 3], [2, 1, 3, 4, 0]), ([4, 1, 0, 3, 2], [2, 1, 4, 3, 0]), ([4, 1, 2, 0, 3], [3, 1, 2, 4, 0]), ([4, 1, 2, 3, 0], [4, 1, 2, 3, 0]), ([4, 1, 3, 0, 2], [3, 1, 4, 2, 0]), ([4, 1, 3, 2, 0], [4, 1, 3, 2, 0]), ([4, 2, 0, 1, 3], [2, 3, 1, 4, 0]), ([4, 2, 0, 3, 1], [2, 4, 1, 3, 0]), ([4, 2, 1, 0, 3], [3, 2, 1, 4, 0]), ([4, 2, 1, 3, 0], [4, 2, 1, 3, 0]), ([4, 2, 3, 0, 1], [3, 4, 1, 2, 0]), ([4, 2, 3, 1, 0], [4, 3, 1, 2, 0]), ([4, 3, 0, 1, 2], [2, 3, 4, 1, 0]), ([4, 3, 0, 2, 1], [2, 4, 3, 1, 0]), ([4, 3, 1, 0, 2], [3, 2, 4, 1, 0]), ([4, 3, 1, 2, 0], [4, 2, 3, 1, 0]), ([4, 3, 2, 0, 1], [3, 4, 2, 1, 0]), ([4, 3, 2, 1, 0], [4, 3, 2, 1, 0])]
def lits5 : List Nat := [194376236193070340188200, 194376236193070356899880, 49755649439455738314958888, 194376236194165573560360, 194376307969189418117160, 194376236194169851750440, 49755649439455738331670568, 49760316394212842258638888, 12737446256429455843799935016, 49755612474474046322976808, 194376307970284634777640, 194376307970288912967720, 49755649439456833548331048, 194376308250664378050600, 194376308251759594711080, 49755649439456837826521128, 49760316394212842275350568, 12737446256429455843816646696, 49755612474474046339688488, 12737446256500667922002815016, 3260786241645940694926156703784, 12737436793465354772055402536, 49755612545686124525856808, 49755612473910005464639528, 834761277861360817901096099588392, 3260783819127130821646166468904, 12737446256429455839521744936, 12737436793320961398931138856, 49755649439175362849876008, 49755649439455734036768808, 49755649439175362866587688, 12737436793465354763448822056, 49755649439175358571685928, 49755612473909996858059048, 194357861506590668564520, 194376235912694875105320, 194357861506590685276200, 194376235912694891817000, 194357861507685901936680, 194357861507690180126760, 49755612474474042044786728, 49755612473910005464574248, 194357861226215203481640, 194357861506586390374440, 194357861226215220193320, 194357861226210925291560, 194357861226210925226280]
theorem tab5 : Tab 5 reps5 perms5 lits5 := ⟨by decide +kernel, by decide +kernel, by decide +kernel, by decide +kernel, by decide +kernel⟩

theorem shape_len {f g : List Int} (hf : Good f) (hg : Good g) (h : shapeT f = shapeT g) : f.length = g.length := by
  have h1 : (shapeT f).count 40 = f.length * 1 + ((loopsLL f).length - 1) * 0 := shape_mu (μ := List.count 40) (fun a b => List.count_append) hf
  have h2 : (shapeT g).count 40 = g.length * 1 + ((loopsLL g).length - 1) * 0 := shape_mu (μ := List.count 40) (fun a b => List.count_append) hg
  rw [h] at h1
  omega
/-- maps of at most five things that have one shape differ by names alone -/
theorem shape_ren {f g : List Int} (hf : Good f) (hg : Good g) (h5 : f.length ≤ 5) (h : shapeT f = shapeT g) : ∃ p, Ren f g p := by
  have hl := shape_len hf hg h
  have h1 := hf.1.1
  rcases (show f.length = 1 ∨ f.length = 2 ∨ f.length = 3 ∨ f.length = 4 ∨ f.length = 5 by omega) with e | e | e | e | e
  · exact tab1.main (by omega) (by omega) hf hg e (by omega) h
  · exact tab2.main (by omega) (by omega) hf hg e (by omega) h
  · exact tab3.main (by omega) (by omega) hf hg e (by omega) h
  · exact tab4.main (by omega) (by omega) hf hg e (by omega) h
  · exact tab5.main (by omega) (by omega) hf hg e (by omega) h

end Go.Proofs.Ytjipecfoiddkjaa
