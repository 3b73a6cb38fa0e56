/- Plain law: roots of turns. No program in sight. -/
import Derived.Test.YtjipecfoiddkjaaS2
namespace Go.Proofs.Ytjipecfoiddkjaa
set_option linter.unusedVariables false

/-- the least things of the loops, in order -/
def mins (f : List Int) : List Nat := (List.range f.length).filter fun t => loopOf f t == t
def tj (f : List Int) (j : Nat) : Nat := (mins f).getD j 0
theorem loopsK_mins (f : List Int) : ∀ k, loopsK f k = ((List.range k).filter fun t => loopOf f t == t).map fun t => ints (way f t)
  | 0 => rfl
  | k + 1 => by
    rw [loopsK, loopsK_mins f k, List.range_succ, List.filter_append]
    by_cases e : loopOf f k = k
    · rw [if_pos e]; simp [e]
    · rw [if_neg e]; simp [e]
theorem loopsLL_mins {f : List Int} (hf : Good f) : loopsLL f = (mins f).map fun t => ints (way f t) := by rw [loopsLL_yes hf, loopsK_mins, mins]
theorem mins_len {f : List Int} (hf : Good f) : (loopsLL f).length = (mins f).length := by rw [loopsLL_mins hf, List.length_map]
theorem tj_mem {f : List Int} {j : Nat} (h : j < (mins f).length) : tj f j < f.length ∧ loopOf f (tj f j) = tj f j := by
  have : tj f j ∈ mins f := by rw [tj, List.getD_eq_getElem?_getD, List.getElem?_eq_getElem h]; exact List.getElem_mem h
  simpa [mins] using this
theorem gl_tj {f : List Int} (hf : Good f) {j : Nat} (h : j < (mins f).length) : gl (loopsLL f) j = ints (way f (tj f j)) := by
  rw [gl, loopsLL_mins hf, tj, List.getD_eq_getElem?_getD, List.getD_eq_getElem?_getD, List.getElem?_map, List.getElem?_eq_getElem h]
  rfl
theorem tj_inj {f : List Int} {i j : Nat} (hi : i < (mins f).length) (hj : j < (mins f).length) (e : tj f i = tj f j) : i = j := by
  have hn : (mins f).Nodup := List.Nodup.sublist List.filter_sublist List.nodup_range
  have h1 : tj f i = (mins f)[i] := by rw [tj, List.getD_eq_getElem?_getD, List.getElem?_eq_getElem hi]; rfl
  have h2 : tj f j = (mins f)[j] := by rw [tj, List.getD_eq_getElem?_getD, List.getElem?_eq_getElem hj]; rfl
  rw [h1, h2] at e
  have h3 := List.pairwise_iff_getElem.1 hn
  rcases Nat.lt_trichotomy i j with h | h | h
  · exact absurd e (h3 i j hi hj h)
  · exact h
  · exact absurd e.symm (h3 j i hj hi h)
theorem tj_has {f : List Int} {t : Nat} (ht : t < f.length) (e : loopOf f t = t) : ∃ j, j < (mins f).length ∧ tj f j = t := by
  have hm : t ∈ mins f := by simp [mins, ht, e]
  obtain ⟨j, hj, h⟩ := List.getElem_of_mem hm
  exact ⟨j, hj, by rw [tj, List.getD_eq_getElem?_getD, List.getElem?_eq_getElem hj]; exact h⟩
theorem tj_tail {f : List Int} (hf : Good f) {j : Nat} (h : j < (mins f).length) : tail f (tj f j) = 0 := loopOf_self hf (tj_mem h).1 (tj_mem h).2
/-- how long the j-th loop is -/
def lj (f : List Int) (j : Nat) : Nat := loop f (tj f j)
theorem gl_long {f : List Int} (hf : Good f) {j : Nat} (h : j < (mins f).length) : (gl (loopsLL f) j).length = lj f j := by
  rw [gl_tj hf h, way_len, rho_loop hf (tj_mem h).1 (tj_tail hf h)]; rfl
theorem lj_pos {f : List Int} (hf : Good f) {j : Nat} (h : j < (mins f).length) : 1 ≤ lj f j := loop_pos hf (tj_mem h).1
theorem lj_le {f : List Int} (hf : Good f) {j : Nat} (h : j < (mins f).length) : lj f j ≤ f.length := by
  rw [← gl_long hf h]; exact (loops_long hf (by rw [mins_len hf]; exact h)).2
theorem gl_nth {f : List Int} (hf : Good f) {j : Nat} (h : j < (mins f).length) {p : Nat} (hp : p < lj f j) : nth (gl (loopsLL f) j) p = (it f p (tj f j) : Int) := by
  rw [gl_tj hf h, nth_way]
  rw [rho_loop hf (tj_mem h).1 (tj_tail hf h)]; exact hp
theorem it_mod_tj {f : List Int} (hf : Good f) {j : Nat} (h : j < (mins f).length) (q : Nat) : it f (q % lj f j) (tj f j) = it f q (tj f j) := by
  have := it_mod hf (tj_mem h).1 (a := q) (by rw [tj_tail hf h]; omega)
  rw [tj_tail hf h, Nat.zero_add, Nat.sub_zero] at this
  exact this.symm
/-- every thing of a map that turns round is on one loop, at one place -/
theorem on_some {f : List Int} (hf : Good f) (hi : Inj f) {x : Nat} (hx : x < f.length) : ∃ j p, j < (mins f).length ∧ p < lj f j ∧ it f p (tj f j) = x := by
  obtain ⟨j, hj, e⟩ := tj_has (loopOf_lt hf hx) (loopOf_idem hf hx)
  have hm := (mem_way_on hf (tj_mem hj).1 (tj_mem hj).2 x).2 ⟨hx, (inj_iff_tails hf).1 hi x hx, e.symm⟩
  obtain ⟨p, hp, h⟩ := mem_walk.1 hm
  rw [rho_loop hf (tj_mem hj).1 (tj_tail hf hj)] at hp
  exact ⟨j, p, hj, hp, h⟩
theorem it_tj_inj {f : List Int} (hf : Good f) {i j : Nat} (hi : i < (mins f).length) (hj : j < (mins f).length) {p q : Nat} (e : it f p (tj f i) = it f q (tj f j)) : i = j := by
  refine tj_inj hi hj ?_
  have h1 := loopOf_it hf (tj_mem hi).1 p
  have h2 := loopOf_it hf (tj_mem hj).1 q
  rw [e, h2, (tj_mem hi).2, (tj_mem hj).2] at h1
  exact h1.symm
theorem it_pl_inj {f : List Int} (hf : Good f) {j : Nat} (hj : j < (mins f).length) {p q : Nat} (hp : p < lj f j) (hq : q < lj f j) (e : it f p (tj f j) = it f q (tj f j)) : p = q := by
  have hr := rho_loop hf (tj_mem hj).1 (tj_tail hf hj)
  exact it_inj hf (tj_mem hj).1 (by rw [hr]; exact hp) (by rw [hr]; exact hq) e

/-- which loop of l things waits for another one, ahead of the j-th -/
def wt (f : List Int) (l : Nat) : Nat → Option Nat
  | 0 => none
  | j + 1 => if lj f j = l then (match wt f l j with | none => some j | some _ => none) else wt f l j
theorem wt_lt {f : List Int} {l : Nat} : ∀ {j a : Nat}, wt f l j = some a → a < j ∧ lj f a = l
  | 0, a, h => by simp [wt] at h
  | j + 1, a, h => by
    rw [wt] at h
    by_cases e : lj f j = l
    · rw [if_pos e] at h
      cases hw : wt f l j with
      | none => rw [hw] at h; simp at h; subst h; exact ⟨by omega, e⟩
      | some b => rw [hw] at h; simp at h
    · rw [if_neg e] at h
      have := wt_lt h
      exact ⟨by omega, this.2⟩
theorem wt_next {f : List Int} {l : Nat} {i a : Nat} : ∀ {m : Nat}, i ≤ m → wt f l i = some a → wt f l m = some a ∨ ∃ b, i ≤ b ∧ b < m ∧ lj f b = l ∧ wt f l b = some a
  | 0, h, hw => by
    obtain rfl : i = 0 := by omega
    exact .inl hw
  | m + 1, h, hw => by
    by_cases e : i = m + 1
    · subst e; exact .inl hw
    · rcases wt_next (m := m) (by omega) hw with h1 | ⟨b, h1, h2, h3⟩
      · by_cases e2 : lj f m = l
        · exact .inr ⟨m, by omega, by omega, e2, h1⟩
        · exact .inl (by rw [wt, if_neg e2]; exact h1)
      · exact .inr ⟨b, h1, by omega, h3⟩
theorem wt_par {f : List Int} (hf : Good f) {l : Nat} (hl : 1 ≤ l) (hln : l ≤ f.length) : ∀ j, j ≤ (mins f).length → (wt f l j = none ↔ nth (kk f.length (loopsLL f) j) (l - 1) % 2 = 0)
  | 0, _ => by
    have : nth (List.replicate f.length (0 : Int)) (l - 1) = 0 := by by_cases h : l - 1 < f.length <;> simp [nth, h]
    rw [kk, this]; simp [wt]
  | j + 1, hj => by
    have ih := wt_par hf hl hln j (by omega)
    have hlj := lj_pos hf (show j < (mins f).length by omega)
    have hll := lj_le hf (show j < (mins f).length by omega)
    rw [kk, nth_set, gl_long hf (by omega), kk_len, wt]
    by_cases e : lj f j = l
    · rw [if_pos e, if_pos ⟨by omega, by omega⟩, e]
      cases hw : wt f l j with
      | none =>
        have := ih.1 hw
        simp only [reduceCtorEq, false_iff]
        omega
      | some a =>
        have : ¬ nth (kk f.length (loopsLL f) j) (l - 1) % 2 = 0 := fun h => by
          have := ih.2 h
          rw [hw] at this
          cases this
        simp only [true_iff]
        omega
    · rw [if_neg e, if_neg (fun h => by omega)]
      exact ih
theorem wt_end {f : List Int} (hf : Good f) (he : evenB (kindsL f) = true) {l : Nat} (hl : l % 2 = 0) (h1 : 1 ≤ l) (hln : l ≤ f.length) : wt f l (mins f).length = none := by
  refine (wt_par hf h1 hln _ (Nat.le_refl _)).2 ?_
  have e : kindsL f = kk f.length (loopsLL f) (loopsLL f).length := if_pos (ok_of hf)
  rw [mins_len hf] at e
  rw [← e]
  rw [evenB, List.all_eq_true] at he
  have := he (l - 1) (List.mem_range.2 (by rw [(kinds_sums hf).1]; omega))
  simp at this
  rcases this with h | h
  · omega
  · exact h

/-- the row g leads x to y -/
def At (g : List Int) (x y : Nat) : Prop := nth g x = (y : Int)
/-- what a root does with the things of the j-th loop (and of the one that waited for it) -/
def Done (f g : List Int) (j : Nat) : Prop :=
  (lj f j % 2 = 1 → ∀ p, At g (it f p (tj f j)) (it f (p + (lj f j + 1) / 2) (tj f j))) ∧
  (lj f j % 2 = 0 → ∀ a, wt f (lj f j) j = some a → ∀ p, At g (it f p (tj f a)) (it f p (tj f j)) ∧ At g (it f p (tj f j)) (it f (p + 1) (tj f a)))
theorem covered {f : List Int} (hf : Good f) (he : evenB (kindsL f) = true) {j : Nat} (hj : j < (mins f).length) (hl : lj f j % 2 = 0) :
    ∃ a b, a < b ∧ b < (mins f).length ∧ lj f b = lj f j ∧ lj f a = lj f j ∧ wt f (lj f b) b = some a ∧ (j = a ∨ j = b) := by
  cases hw : wt f (lj f j) j with
  | some a =>
    have := wt_lt hw
    exact ⟨a, j, this.1, hj, rfl, this.2, hw, .inr rfl⟩
  | none =>
    have h1 : wt f (lj f j) (j + 1) = some j := by rw [wt, if_pos rfl, hw]
    rcases wt_next (m := (mins f).length) (by omega) h1 with h2 | ⟨b, h2, h3, h4, h5⟩
    · rw [wt_end hf he hl (lj_pos hf hj) (lj_le hf hj)] at h2
      cases h2
    · exact ⟨j, b, by omega, h3, h4, rfl, by rw [h4]; exact h5, .inl rfl⟩
/-- THE ROOT IS TOLD BY WHAT IT DOES -/
theorem done_ap {f g : List Int} (hf : Good f) (hi : Inj f) (he : evenB (kindsL f) = true) (hd : ∀ j, j < (mins f).length → Done f g j) {x : Nat} (hx : x < f.length) :
    ∃ y, y < f.length ∧ At g x y ∧ At g y (ap f x) := by
  obtain ⟨j, p, hj, hp, rfl⟩ := on_some hf hi hx
  rcases Nat.mod_two_eq_zero_or_one (lj f j) with hl | hl
  · obtain ⟨a, b, hab, hb, e1, e2, hw, h⟩ := covered hf he hj hl
    have hd2 := (hd b hb).2 (by rw [e1]; exact hl) a hw
    rcases h with rfl | rfl
    · exact ⟨_, hf.it_lt (tj_mem hb).1 p, (hd2 p).1, (hd2 p).2⟩
    · refine ⟨_, hf.it_lt (tj_mem (by omega : a < (mins f).length)).1 (p + 1), (hd2 p).2, (hd2 (p + 1)).1⟩
  · have hd1 := (hd j hj).1 hl
    refine ⟨_, hf.it_lt (tj_mem hj).1 _, hd1 p, ?_⟩
    have := hd1 (p + (lj f j + 1) / 2)
    rw [show p + (lj f j + 1) / 2 + (lj f j + 1) / 2 = p + 1 + lj f j by omega] at this
    have e : it f (p + 1 + lj f j) (tj f j) = it f (p + 1) (tj f j) := it_round hf (tj_mem hj).1 (by rw [tj_tail hf hj]; omega)
    rw [e] at this
    exact this
theorem done_eq {f g h : List Int} (hf : Good f) (hi : Inj f) (he : evenB (kindsL f) = true) (hg : g.length = f.length) (hh : h.length = f.length)
    (hd : ∀ j, j < (mins f).length → Done f g j) (hd' : ∀ j, j < (mins f).length → Done f h j) : g = h := by
  refine ext_nth (by omega) fun x hx => ?_
  rw [hg] at hx
  obtain ⟨j, p, hj, hp, rfl⟩ := on_some hf hi hx
  rcases Nat.mod_two_eq_zero_or_one (lj f j) with hl | hl
  · obtain ⟨a, b, hab, hb, e1, e2, hw, h⟩ := covered hf he hj hl
    have hd2 := (hd b hb).2 (by rw [e1]; exact hl) a hw p
    have hd3 := (hd' b hb).2 (by rw [e1]; exact hl) a hw p
    rcases h with rfl | rfl
    · exact hd2.1.trans hd3.1.symm
    · exact hd2.2.trans hd3.2.symm
  · exact ((hd j hj).1 hl p).trans ((hd' j hj).1 hl p).symm

theorem wt_start {f : List Int} {l : Nat} : ∀ {j a : Nat}, wt f l j = some a → wt f l a = none ∧ wt f l (a + 1) = some a
  | 0, a, h => by simp [wt] at h
  | j + 1, a, h => by
    by_cases e : lj f j = l
    · have h0 := h
      rw [wt, if_pos e] at h
      cases hw : wt f l j with
      | none => rw [hw] at h; simp at h; subst h; exact ⟨hw, h0⟩
      | some b => rw [hw] at h; simp at h
    · rw [wt, if_neg e] at h
      exact wt_start h
/-- between two loops of one pair no other pair of that length begins or ends -/
theorem wt_apart {f : List Int} {l : Nat} {i j a a' : Nat} (hij : i < j) (hli : lj f i = l) (hi : wt f l i = some a') (hj : wt f l j = some a) : a' ≠ a ∧ i ≠ a := by
  have h1 := wt_start hj
  have hia : i ≠ a := fun e => by subst e; rw [h1.1] at hi; cases hi
  refine ⟨fun e => ?_, hia⟩
  subst e
  -- behind i nothing waits; so what waits at j began behind i
  have h2 : wt f l (i + 1) = none := by rw [wt, if_pos hli, hi]
  have h3 : ∀ k, i + 1 ≤ k → ∀ b, wt f l k = some b → i < b := by
    intro k
    induction k with
    | zero => intro h; omega
    | succ k ih =>
      intro hk b hb
      by_cases e2 : k = i
      · subst e2; rw [h2] at hb; cases hb
      · rw [wt] at hb
        by_cases e3 : lj f k = l
        · rw [if_pos e3] at hb
          cases hw : wt f l k with
          | none => rw [hw] at hb; simp at hb; omega
          | some c => rw [hw] at hb; simp at hb
        · rw [if_neg e3] at hb
          exact ih (by omega) b hb
  have h4 := h3 j (by omega) _ hj
  have h5 := (wt_lt hi).1
  omega
/-- only things of the j-th and the a-th loop have been written -/
def Kept (f g g' : List Int) (j a : Nat) : Prop := ∀ i p, i < (mins f).length → i ≠ j → i ≠ a → nth g' (it f p (tj f i)) = nth g (it f p (tj f i))
theorem Done.kept {f g g' : List Int} {i j a : Nat} (hd : Done f g i) (hi : i < (mins f).length) (hk : Kept f g g' j a) (hij : i ≠ j) (hia : i ≠ a ∨ wt f (lj f i) i = none ∧ lj f i % 2 = 0) (hp : lj f i % 2 = 0 → ∀ a', wt f (lj f i) i = some a' → a' ≠ j ∧ a' ≠ a) : Done f g' i := by
  refine ⟨fun hl p => ?_, fun hl a' hw p => ?_⟩
  · have : i ≠ a := by
      rcases hia with h | h
      · exact h
      · omega
    unfold At
    rw [hk i p hi hij this]
    exact hd.1 hl p
  · have h1 : i ≠ a := by
      rcases hia with h | h
      · exact h
      · rw [h.1] at hw; cases hw
    have h2 := hp hl a' hw
    have h3 := (wt_lt hw).1
    unfold At
    rw [hk i p hi hij h1, hk a' p (by omega) h2.1 h2.2]
    exact hd.2 hl a' hw p

/-! ### what is written -/
/-- the first k things of an odd loop -/
def layO (f g : List Int) (j : Nat) : Nat → List Int
  | 0 => g
  | k + 1 => (layO f g j k).set (it f k (tj f j)) (it f (k + (lj f j + 1) / 2) (tj f j) : Int)
/-- the first k things of two loops -/
def layE (f g : List Int) (a j : Nat) : Nat → List Int
  | 0 => g
  | k + 1 => ((layE f g a j k).set (it f k (tj f a)) (it f k (tj f j) : Int)).set (it f k (tj f j)) (it f (k + 1) (tj f a) : Int)
theorem layO_len (f g : List Int) (j : Nat) : ∀ k, (layO f g j k).length = g.length
  | 0 => rfl
  | k + 1 => by rw [layO, List.length_set, layO_len f g j k]
theorem layE_len (f g : List Int) (a j : Nat) : ∀ k, (layE f g a j k).length = g.length
  | 0 => rfl
  | k + 1 => by rw [layE, List.length_set, List.length_set, layE_len f g a j k]
theorem nth_set_ne {g : List Int} {i x : Nat} {z : Int} (h : i ≠ x) : nth (g.set i z) x = nth g x := by rw [nth_set, if_neg (fun e => h e.1)]
theorem nth_set_eq {g : List Int} {i : Nat} {z : Int} (h : i < g.length) : nth (g.set i z) i = z := by rw [nth_set, if_pos ⟨rfl, h⟩]
theorem layO_kept {f : List Int} (hf : Good f) (g : List Int) {j : Nat} (hj : j < (mins f).length) (a : Nat) : ∀ k, Kept f g (layO f g j k) j a
  | 0 => fun i p _ _ _ => rfl
  | k + 1 => fun i p hi hij hia => by
    rw [layO, nth_set_ne (fun e => hij (it_tj_inj hf hi hj e.symm))]
    exact layO_kept hf g hj a k i p hi hij hia
theorem layE_kept {f : List Int} (hf : Good f) (g : List Int) {a j : Nat} (ha : a < (mins f).length) (hj : j < (mins f).length) : ∀ k, Kept f g (layE f g a j k) j a
  | 0 => fun i p _ _ _ => rfl
  | k + 1 => fun i p hi hij hia => by
    rw [layE, nth_set_ne (fun e => hij (it_tj_inj hf hi hj e.symm)), nth_set_ne (fun e => hia (it_tj_inj hf hi ha e.symm))]
    exact layE_kept hf g ha hj k i p hi hij hia
theorem layO_at {f : List Int} (hf : Good f) {g : List Int} (hg : g.length = f.length) {j : Nat} (hj : j < (mins f).length) : ∀ k, k ≤ lj f j → ∀ p, p < k → At (layO f g j k) (it f p (tj f j)) (it f (p + (lj f j + 1) / 2) (tj f j))
  | 0, _, p, hp => by omega
  | k + 1, hk, p, hp => by
    unfold At
    rw [layO]
    by_cases e : p = k
    · subst e
      rw [nth_set_eq (by rw [layO_len, hg]; exact hf.it_lt (tj_mem hj).1 p)]
    · rw [nth_set_ne (fun h => e (it_pl_inj hf hj (by omega) (by omega) h).symm)]
      exact layO_at hf hg hj k (by omega) p (by omega)
theorem layE_at {f : List Int} (hf : Good f) {g : List Int} (hg : g.length = f.length) {a j : Nat} (hj : j < (mins f).length) (haj : a < j) (hl : lj f a = lj f j) : ∀ k, k ≤ lj f j → ∀ p, p < k →
    At (layE f g a j k) (it f p (tj f a)) (it f p (tj f j)) ∧ At (layE f g a j k) (it f p (tj f j)) (it f (p + 1) (tj f a))
  | 0, _, p, hp => by omega
  | k + 1, hk, p, hp => by
    have ha : a < (mins f).length := by omega
    have hne : ∀ p q, it f p (tj f a) ≠ it f q (tj f j) := fun p q e => by have := it_tj_inj hf ha hj e; omega
    unfold At
    rw [layE]
    by_cases e : p = k
    · subst e
      rw [nth_set_ne (fun h => hne _ _ h.symm), nth_set_eq (by rw [layE_len, hg]; exact hf.it_lt (tj_mem ha).1 p), nth_set_eq (by rw [List.length_set, layE_len, hg]; exact hf.it_lt (tj_mem hj).1 p)]
      exact ⟨rfl, rfl⟩
    · have h1 : it f k (tj f j) ≠ it f p (tj f j) := fun h => e (it_pl_inj hf hj (by omega) (by omega) h).symm
      have h2 : it f k (tj f a) ≠ it f p (tj f a) := fun h => e (it_pl_inj hf ha (by omega) (by omega) h).symm
      rw [nth_set_ne (fun h => hne _ _ h.symm), nth_set_ne h2, nth_set_ne h1, nth_set_ne (hne _ _)]
      exact layE_at hf hg hj haj hl k (by omega) p (by omega)
/-- what is right for each place within the loop is right for all steps -/
theorem layO_done {f : List Int} (hf : Good f) {g : List Int} (hg : g.length = f.length) {j : Nat} (hj : j < (mins f).length) (hl : lj f j % 2 = 1) : Done f (layO f g j (lj f j)) j := by
  refine ⟨fun _ p => ?_, fun h => by omega⟩
  have h1 := layO_at hf hg hj _ (Nat.le_refl _) (p % lj f j) (Nat.mod_lt _ (lj_pos hf hj))
  unfold At at h1 ⊢
  rw [it_mod_tj hf hj] at h1
  rw [h1, ← it_mod_tj hf hj (p % lj f j + (lj f j + 1) / 2), Nat.mod_add_mod, it_mod_tj hf hj]
theorem layE_done {f : List Int} (hf : Good f) {g : List Int} (hg : g.length = f.length) {a j : Nat} (hj : j < (mins f).length) (hl : lj f j % 2 = 0) (hw : wt f (lj f j) j = some a) : Done f (layE f g a j (lj f j)) j := by
  obtain ⟨haj, hla⟩ := wt_lt hw
  have ha : a < (mins f).length := by omega
  refine ⟨fun h => by omega, fun _ a' hw' p => ?_⟩
  rw [hw] at hw'
  cases hw'
  have h1 := layE_at hf hg hj haj hla _ (Nat.le_refl _) (p % lj f j) (Nat.mod_lt _ (lj_pos hf hj))
  have ea : ∀ q, it f (q % lj f j) (tj f a) = it f q (tj f a) := fun q => by rw [← hla]; exact it_mod_tj hf ha q
  unfold At at h1 ⊢
  rw [ea, it_mod_tj hf hj] at h1
  refine ⟨h1.1, ?_⟩
  rw [h1.2, ← ea (p % lj f j + 1), Nat.mod_add_mod, ea]

/-! ### the root of the program -/
def rtW (f : List Int) : Nat → List Int
  | 0 => List.replicate f.length 0
  | j + 1 => if lj f j % 2 = 1 then layO f (rtW f j) j (lj f j) else match wt f (lj f j) j with | none => rtW f j | some a => layE f (rtW f j) a j (lj f j)
theorem rtW_len (f : List Int) : ∀ j, (rtW f j).length = f.length
  | 0 => by simp [rtW]
  | j + 1 => by
    rw [rtW]
    split
    · rw [layO_len, rtW_len f j]
    · split
      · exact rtW_len f j
      · rw [layE_len, rtW_len f j]
/-- a step keeps what is done of other loops -/
theorem keepO {f : List Int} (hf : Good f) {g : List Int} {i j : Nat} (hi : i < (mins f).length) (hj : j < (mins f).length) (hl : lj f j % 2 = 1) (hij : i ≠ j) (k : Nat) (hd : Done f g i) : Done f (layO f g j k) i :=
  hd.kept hi (layO_kept hf g hj j k) hij (.inl hij) fun he a' hw => by
    have h := (wt_lt hw).2
    have : a' ≠ j := fun e => by rw [e] at h; omega
    exact ⟨this, this⟩
theorem keepE {f : List Int} (hf : Good f) {g : List Int} {i j a : Nat} (hi : i < (mins f).length) (hj : j < (mins f).length) (hl : lj f j % 2 = 0) (hw : wt f (lj f j) j = some a) (hij : i ≠ j) (hc : lj f i ≠ lj f j ∨ i < j) (k : Nat) (hd : Done f g i) : Done f (layE f g a j k) i := by
  obtain ⟨haj, hla⟩ := wt_lt hw
  refine hd.kept hi (layE_kept hf g (by omega) hj k) hij ?_ fun he a' hw' => ?_
  · by_cases e : lj f i = lj f j
    · cases hwi : wt f (lj f i) i with
      | none => exact .inr ⟨rfl, by omega⟩
      | some a' =>
        have h1 : i < j := by rcases hc with h | h <;> omega
        rw [e] at hwi
        exact .inl (wt_apart h1 e hwi hw).2
    · exact .inl (fun h => e (by rw [h, hla]))
  · obtain ⟨h1, h2⟩ := wt_lt hw'
    by_cases e : lj f i = lj f j
    · have h3 : i < j := by rcases hc with h | h <;> omega
      rw [e] at hw'
      exact ⟨by omega, (wt_apart h3 e hw' hw).1⟩
    · exact ⟨fun h => e (by rw [← h2, h]), fun h => e (by rw [← h2, h, hla])⟩
theorem done_none {f g : List Int} {j : Nat} (hl : ¬ lj f j % 2 = 1) (hw : wt f (lj f j) j = none) : Done f g j :=
  ⟨fun h => absurd h hl, fun _ a h => by rw [hw] at h; cases h⟩
theorem rtW_done {f : List Int} (hf : Good f) : ∀ j, j ≤ (mins f).length → ∀ i, i < j → Done f (rtW f j) i
  | 0, _, i, hi => by omega
  | j + 1, hj, i, hi => by
    have ih := rtW_done hf j (by omega)
    rw [rtW]
    by_cases hl : lj f j % 2 = 1
    · rw [if_pos hl]
      by_cases e : i = j
      · subst e; exact layO_done hf (rtW_len f i) (by omega) hl
      · exact keepO hf (by omega) (by omega) hl e _ (ih i (by omega))
    · rw [if_neg hl]
      cases hw : wt f (lj f j) j with
      | none =>
        by_cases e : i = j
        · subst e; exact done_none hl hw
        · exact ih i (by omega)
      | some a =>
        by_cases e : i = j
        · subst e; exact layE_done hf (rtW_len f i) (by omega) (by omega) hw
        · exact keepE hf (by omega) (by omega) (by omega) hw e (.inr (by omega)) _ (ih i (by omega))
def rootL (f : List Int) : List Int := if rootOkB f = true then rtW f (mins f).length else []

/-! ### the root of the reference -/
def spI (f g : List Int) (l : Nat) : Nat → List Int
  | 0 => g
  | k + 1 => if lj f k = l then (if l % 2 = 1 then layO f (spI f g l k) k l else match wt f l k with | none => spI f g l k | some a => layE f (spI f g l k) a k l) else spI f g l k
def spO (f : List Int) : Nat → List Int
  | 0 => List.replicate f.length 0
  | l + 1 => spI f (spO f l) (l + 1) (mins f).length
theorem spI_len (f g : List Int) (l : Nat) : ∀ k, (spI f g l k).length = g.length
  | 0 => rfl
  | k + 1 => by
    rw [spI]
    split
    · split
      · rw [layO_len, spI_len f g l k]
      · split
        · exact spI_len f g l k
        · rw [layE_len, spI_len f g l k]
    · exact spI_len f g l k
theorem spO_len (f : List Int) : ∀ l, (spO f l).length = f.length
  | 0 => by simp [spO]
  | l + 1 => by rw [spO, spI_len, spO_len f l]
theorem spI_done {f : List Int} (hf : Good f) {g : List Int} (hg : g.length = f.length) {l : Nat} (hd : ∀ i, i < (mins f).length → lj f i < l → Done f g i) : ∀ k, k ≤ (mins f).length → ∀ i, i < (mins f).length → (lj f i < l ∨ lj f i = l ∧ i < k) → Done f (spI f g l k) i
  | 0, _, i, hi, h => by
    rcases h with h | h
    · exact hd i hi h
    · omega
  | k + 1, hk, i, hi, h => by
    have ih := spI_done hf hg hd k (by omega)
    have hlen := spI_len f g l k
    rw [spI]
    by_cases hkl : lj f k = l
    · rw [if_pos hkl]
      by_cases hl : l % 2 = 1
      · rw [if_pos hl]
        by_cases e : i = k
        · subst e
          have := layO_done hf (show (spI f g l i).length = f.length by omega) (show i < (mins f).length by omega) (by omega)
          rw [hkl] at this
          exact this
        · exact keepO hf hi (by omega) (by omega) e _ (ih i hi (by omega))
      · rw [if_neg hl]
        cases hw : wt f l k with
        | none =>
          by_cases e : i = k
          · subst e; exact done_none (by omega) (by rw [hkl]; exact hw)
          · exact ih i hi (by omega)
        | some a =>
          by_cases e : i = k
          · subst e
            have := layE_done hf (show (spI f g l i).length = f.length by omega) (show i < (mins f).length by omega) (by omega) (by rw [hkl]; exact hw)
            rw [hkl] at this
            exact this
          · exact keepE hf hi (by omega) (by omega) (by rw [hkl]; exact hw) e (by omega) _ (ih i hi (by omega))
    · rw [if_neg hkl]
      refine ih i hi ?_
      rcases h with h | h
      · exact .inl h
      · refine .inr ⟨h.1, ?_⟩
        have : i ≠ k := fun e => hkl (by rw [← e]; exact h.1)
        omega
theorem spO_done {f : List Int} (hf : Good f) : ∀ l, ∀ i, i < (mins f).length → lj f i ≤ l → Done f (spO f l) i
  | 0, i, hi, h => by
    have := lj_pos hf hi
    omega
  | l + 1, i, hi, h => by
    rw [spO]
    refine spI_done hf (spO_len f l) (fun i hi hl => spO_done hf l i hi (by omega)) _ (Nat.le_refl _) i hi (by omega)
theorem rootOk_parts {f : List Int} (h : rootOkB f = true) : Good f ∧ Inj f ∧ evenB (kindsL f) = true := by
  unfold rootOkB at h
  rw [Bool.and_eq_true] at h
  exact ⟨(turnedB_iff.1 h.1).1, (turnedB_iff.1 h.1).2, h.2⟩
theorem spO_root {f : List Int} (h : rootOkB f = true) : spO f f.length = rootL f := by
  obtain ⟨hf, hi, he⟩ := rootOk_parts h
  rw [rootL, if_pos h]
  exact done_eq hf hi he (spO_len f _) (rtW_len f _) (fun j hj => spO_done hf _ j hj (lj_le hf hj)) (fun j hj => rtW_done hf _ (Nat.le_refl _) j hj)
theorem rootL_len (f : List Int) (h : f.length ≤ 1048577) : (rootL f).length ≤ 1048577 := by
  unfold rootL
  split
  · rw [rtW_len]; exact h
  · simp
/-- put behind itself it is the map -/
theorem root_root {f : List Int} (h : rootOkB f = true) : Good (rootL f) ∧ (rootL f).length = f.length ∧ behindL (rootL f) (rootL f) = f ∧ turnedB (rootL f) = true := by
  obtain ⟨hf, hi, he⟩ := rootOk_parts h
  have e : rootL f = rtW f (mins f).length := if_pos h
  have hl : (rootL f).length = f.length := by rw [e, rtW_len]
  have hd : ∀ j, j < (mins f).length → Done f (rootL f) j := fun j hj => by rw [e]; exact rtW_done hf _ (Nat.le_refl _) j hj
  have hs := fun x (hx : x < f.length) => done_ap hf hi he hd hx
  have hg : Good (rootL f) := by
    refine ⟨by rw [hl]; exact hf.1, fun k hk => ?_⟩
    rw [hl] at hk ⊢
    obtain ⟨y, h1, h2, _⟩ := hs k hk
    unfold At at h2
    rw [h2]; omega
  have hap : ∀ x, x < f.length → ap (rootL f) (ap (rootL f) x) = ap f x := fun x hx => by
    obtain ⟨y, h1, h2, h3⟩ := hs x hx
    unfold At at h2 h3
    have e1 : ap (rootL f) x = y := by unfold ap; rw [h2]; rfl
    rw [e1]
    unfold ap at h3 ⊢
    rw [h3]; rfl
  have hb : behindL (rootL f) (rootL f) = f := by
    rw [behindL_good hg hg rfl, hl]
    conv => rhs; rw [eq_mk hf]
    exact mk_congr fun k hk => hap k hk
  refine ⟨hg, hl, hb, turnedB_iff.2 ⟨hg, fun i j hi' hj' e2 => ?_⟩⟩
  rw [hl] at hi' hj'
  refine hi i j hi' hj' ?_
  rw [← hap i hi', ← hap j hj', e2]

end Go.Proofs.Ytjipecfoiddkjaa
