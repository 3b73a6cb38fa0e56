/- Steps on the way to the law; each part says what it proves. -/
import Derived.Test.YtkbfcaaihellfaaU4
import Derived.WalkKit
import Derived.Maps.AppendAt

set_option linter.unusedSimpArgs false

/- Plain law: iterating a map of few things: ways, tails, loops. No program in sight. -/
namespace Go.Proofs.Ytkbfcaaihellfaa
set_option linter.unusedVariables false

/-- the k-th number of a list, 0 beyond its end -/
def nth (xs : List Int) (k : Nat) : Int := xs[k]?.getD 0
theorem nth_lt {xs : List Int} {k : Nat} (h : k < xs.length) : nth xs k = xs[k] := by simp [nth, h]
theorem nth_mem {xs : List Int} {k : Nat} (h : k < xs.length) : nth xs k ∈ xs := by rw [nth_lt h]; exact List.getElem_mem h
theorem nth_app_lt {xs ys : List Int} {k : Nat} (h : k < xs.length) : nth (xs ++ ys) k = nth xs k := by simp [nth, List.getElem?_append_left h]
theorem nth_app_end (xs : List Int) (z : Int) : nth (xs ++ [z]) xs.length = z := by simp [nth]
theorem take_nth {xs : List Int} {k : Nat} (h : k < xs.length) : xs.take (k + 1) = xs.take k ++ [nth xs k] := by
  rw [List.take_add_one, nth_lt h, List.getElem?_eq_getElem h]; rfl

theorem all_of_nth {xs : List Int} {p : Int → Prop} (h : ∀ k, k < xs.length → p (nth xs k)) : ∀ x ∈ xs, p x := by
  intro x hx
  obtain ⟨k, hk, rfl⟩ := List.getElem_of_mem hx
  rw [← nth_lt hk]
  exact h k hk
def mapOkB (xs : List Int) : Bool := decide (1 ≤ xs.length ∧ xs.length ≤ 7) && xs.all fun x => decide (0 ≤ x) && decide (x < xs.length)
theorem mapOkB_no {xs : List Int} {k : Nat} (hk : k < xs.length) (h : ¬ (0 ≤ nth xs k ∧ nth xs k < xs.length)) : mapOkB xs = false := by
  simp only [mapOkB, Bool.and_eq_false_iff]
  right
  rw [List.all_eq_false]
  exact ⟨_, nth_mem hk, by simpa using h⟩
theorem mapOkB_len {xs : List Int} (h : ¬ (1 ≤ xs.length ∧ xs.length ≤ 7)) : mapOkB xs = false := by
  simp only [mapOkB, Bool.and_eq_false_iff]
  left
  simpa using h
theorem mapOkB_all {xs : List Int} (h : ∀ k, k < xs.length → 0 ≤ nth xs k ∧ nth xs k < xs.length) : mapOkB xs = decide (1 ≤ xs.length ∧ xs.length ≤ 7) := by
  have := all_of_nth (p := fun x => 0 ≤ x ∧ x < xs.length) h
  simp only [mapOkB]
  rw [List.all_eq_true.2 (fun x hx => by simpa using this x hx), Bool.and_true]
theorem mapOkB_elim {xs : List Int} (h : mapOkB xs = true) : (1 ≤ xs.length ∧ xs.length ≤ 7) ∧ ∀ k, k < xs.length → 0 ≤ nth xs k ∧ nth xs k < xs.length := by
  simp only [mapOkB, Bool.and_eq_true, decide_eq_true_eq] at h
  refine ⟨h.1, fun k hk => ?_⟩
  have := List.all_eq_true.1 h.2 _ (nth_mem hk)
  simpa using this

/-- to what a thing is led -/
def ap (xs : List Int) (k : Nat) : Nat := (nth xs k).toNat
/-- where one stands after j steps -/
def it (xs : List Int) : Nat → Nat → Nat
  | 0, t => t
  | j + 1, t => ap xs (it xs j t)

def Good (xs : List Int) : Prop := (1 ≤ xs.length ∧ xs.length ≤ 7) ∧ ∀ k, k < xs.length → 0 ≤ nth xs k ∧ nth xs k < xs.length

theorem good_of {xs : List Int} (h : mapOkB xs = true) : Good xs := mapOkB_elim h
theorem ok_of {xs : List Int} (h : Good xs) : mapOkB xs = true := by
  rw [mapOkB_all h.2]
  simpa using h.1
theorem Good.ap_lt {xs : List Int} (h : Good xs) {k : Nat} (hk : k < xs.length) : ap xs k < xs.length := by
  have := h.2 k hk
  unfold ap
  omega
theorem Good.nth_ap {xs : List Int} (h : Good xs) {k : Nat} (hk : k < xs.length) : nth xs k = (ap xs k : Int) := by
  have := h.2 k hk
  unfold ap
  omega
theorem Good.it_lt {xs : List Int} (h : Good xs) {t : Nat} (ht : t < xs.length) (j : Nat) : it xs j t < xs.length := by
  induction j with
  | zero => exact ht
  | succ j ih => exact h.ap_lt ih
theorem it_add (xs : List Int) (i j t : Nat) : it xs (i + j) t = it xs i (it xs j t) := by
  induction i with
  | zero => simp [it]
  | succ i ih => rw [Nat.succ_add]; simp [it, ih]
theorem it_one (xs : List Int) (t : Nat) : it xs 1 t = ap xs t := rfl
theorem it_succ' (xs : List Int) (j t : Nat) : it xs (j + 1) t = it xs j (ap xs t) := it_add xs j 1 t

/-! ### so many things, no more -/
theorem nodup_lt_len : ∀ (n : Nat) (l : List Nat), l.Nodup → (∀ x ∈ l, x < n) → l.length ≤ n
  | 0, l, _, h => by
    cases l with
    | nil => simp
    | cons x l => exact absurd (h x (by simp)) (by omega)
  | n + 1, l, hn, h => by
    by_cases hm : n ∈ l
    · have h1 := nodup_lt_len n (l.erase n) (hn.erase n) (fun x hx => by
        have hx' := (List.Nodup.mem_erase_iff hn).1 hx
        have := h x hx'.2
        omega)
      rw [List.length_erase_of_mem hm] at h1
      omega
    · have h1 := nodup_lt_len n l hn (fun x hx => by
        have := h x hx
        have : x ≠ n := fun e => hm (e ▸ hx)
        omega)
      omega

/-- the first m things on the way -/
def walk (xs : List Int) (t m : Nat) : List Nat := (List.range m).map fun j => it xs j t
theorem walk_succ (xs : List Int) (t m : Nat) : walk xs t (m + 1) = walk xs t m ++ [it xs m t] := by simp [walk, List.range_succ]
theorem walk_len (xs : List Int) (t m : Nat) : (walk xs t m).length = m := by simp [walk]
theorem mem_walk {xs : List Int} {t m x : Nat} : x ∈ walk xs t m ↔ ∃ j, j < m ∧ it xs j t = x := by simp [walk]

/-- how many different things the way has: the search goes on while the next thing is new -/
def rhoF (xs : List Int) (t : Nat) : Nat → Nat → Nat
  | 0, m => m
  | f + 1, m => if it xs m t ∈ walk xs t m then m else rhoF xs t f (m + 1)
def rho (xs : List Int) (t : Nat) : Nat := rhoF xs t 8 0

theorem rhoF_spec {xs : List Int} (h : Good xs) {t : Nat} (ht : t < xs.length) : ∀ (f m : Nat), (walk xs t m).Nodup → 8 ≤ f + m →
    (walk xs t (rhoF xs t f m)).Nodup ∧ it xs (rhoF xs t f m) t ∈ walk xs t (rhoF xs t f m)
  | 0, m, hn, hm => by
    exfalso
    have h1 := nodup_lt_len xs.length _ hn (fun x hx => by obtain ⟨j, _, rfl⟩ := mem_walk.1 hx; exact h.it_lt ht j)
    rw [walk_len] at h1
    have := h.1
    omega
  | f + 1, m, hn, hm => by
    unfold rhoF
    by_cases hx : it xs m t ∈ walk xs t m
    · rw [if_pos hx]
      exact ⟨hn, hx⟩
    · rw [if_neg hx]
      refine rhoF_spec h ht f (m + 1) ?_ (by omega)
      rw [walk_succ]
      rw [List.nodup_append]
      refine ⟨hn, by simp, fun a ha b hb => ?_⟩
      rw [List.mem_singleton] at hb
      subst hb
      exact fun e => hx (e ▸ ha)

theorem rho_nodup {xs : List Int} (h : Good xs) {t : Nat} (ht : t < xs.length) : (walk xs t (rho xs t)).Nodup := (rhoF_spec h ht 8 0 (by simp [walk]) (by omega)).1
theorem rho_back {xs : List Int} (h : Good xs) {t : Nat} (ht : t < xs.length) : it xs (rho xs t) t ∈ walk xs t (rho xs t) := (rhoF_spec h ht 8 0 (by simp [walk]) (by omega)).2
theorem rho_le {xs : List Int} (h : Good xs) {t : Nat} (ht : t < xs.length) : rho xs t ≤ xs.length := by
  have h1 := nodup_lt_len xs.length _ (rho_nodup h ht) (fun x hx => by obtain ⟨j, _, rfl⟩ := mem_walk.1 hx; exact h.it_lt ht j)
  rwa [walk_len] at h1
theorem rho_pos {xs : List Int} (h : Good xs) {t : Nat} (ht : t < xs.length) : 0 < rho xs t := by
  obtain ⟨j, hj, _⟩ := mem_walk.1 (rho_back h ht)
  omega

/-- the way of a thing -/
def way (xs : List Int) (t : Nat) : List Nat := walk xs t (rho xs t)
/-- how long its tail is -/
def tail (xs : List Int) (t : Nat) : Nat := (way xs t).idxOf (it xs (rho xs t) t)
/-- how many things its loop has -/
def loop (xs : List Int) (t : Nat) : Nat := rho xs t - tail xs t

theorem tail_lt {xs : List Int} (h : Good xs) {t : Nat} (ht : t < xs.length) : tail xs t < rho xs t := by
  have := List.idxOf_lt_length_of_mem (rho_back h ht)
  rwa [walk_len] at this
theorem walk_get (xs : List Int) (t m i : Nat) (hi : i < (walk xs t m).length) : (walk xs t m)[i] = it xs i t := by simp [walk]
theorem tail_it {xs : List Int} (h : Good xs) {t : Nat} (ht : t < xs.length) : it xs (tail xs t) t = it xs (rho xs t) t := by
  have h1 := List.getElem_idxOf (List.idxOf_lt_length_of_mem (rho_back h ht))
  rw [walk_get] at h1
  exact h1
theorem it_inj {xs : List Int} (h : Good xs) {t : Nat} (ht : t < xs.length) {i j : Nat} (hi : i < rho xs t) (hj : j < rho xs t) (e : it xs i t = it xs j t) : i = j := by
  have h1 := rho_nodup h ht
  have h2 := List.pairwise_iff_getElem.1 h1
  rcases Nat.lt_trichotomy i j with hlt | rfl | hlt
  · have := h2 i j (by rw [walk_len]; exact hi) (by rw [walk_len]; exact hj) hlt
    rw [walk_get, walk_get] at this
    exact absurd e this
  · rfl
  · have := h2 j i (by rw [walk_len]; exact hj) (by rw [walk_len]; exact hi) hlt
    rw [walk_get, walk_get] at this
    exact absurd e.symm this
theorem loop_pos {xs : List Int} (h : Good xs) {t : Nat} (ht : t < xs.length) : 0 < loop xs t := by
  have := tail_lt h ht
  unfold loop
  omega
theorem rho_eq {xs : List Int} (h : Good xs) {t : Nat} (ht : t < xs.length) : rho xs t = tail xs t + loop xs t := by
  have := tail_lt h ht
  unfold loop
  omega

/-- behind the tail one comes round -/
theorem it_round {xs : List Int} (h : Good xs) {t : Nat} (ht : t < xs.length) {a : Nat} (ha : tail xs t ≤ a) : it xs (a + loop xs t) t = it xs a t := by
  obtain ⟨d, rfl⟩ : ∃ d, a = d + tail xs t := ⟨a - tail xs t, by omega⟩
  rw [it_add xs d (tail xs t), tail_it h ht, show d + tail xs t + loop xs t = d + rho xs t by rw [rho_eq h ht]; omega, it_add]
theorem it_rounds {xs : List Int} (h : Good xs) {t : Nat} (ht : t < xs.length) {a : Nat} (ha : tail xs t ≤ a) (q : Nat) : it xs (a + q * loop xs t) t = it xs a t := by
  induction q with
  | zero => simp
  | succ q ih => rw [Nat.succ_mul, ← Nat.add_assoc, it_round h ht (by omega), ih]
/-- every step leads to one of the first rho -/
theorem it_mod {xs : List Int} (h : Good xs) {t : Nat} (ht : t < xs.length) {a : Nat} (ha : tail xs t ≤ a) : it xs a t = it xs (tail xs t + (a - tail xs t) % loop xs t) t := by
  have e : a = tail xs t + (a - tail xs t) % loop xs t + (a - tail xs t) / loop xs t * loop xs t := by
    have := Nat.mod_add_div (a - tail xs t) (loop xs t)
    rw [Nat.mul_comm] at this
    omega
  conv => lhs; rw [e]
  exact it_rounds h ht (by omega) _

/-- WHEN ONE STANDS ON ONE THING TWICE -/
theorem it_eq_iff {xs : List Int} (h : Good xs) {t : Nat} (ht : t < xs.length) {a b : Nat} (hab : a < b) : it xs a t = it xs b t ↔ tail xs t ≤ a ∧ loop xs t ∣ b - a := by
  have hl := loop_pos h ht
  have hr := rho_eq h ht
  constructor
  · intro e
    by_cases hta : tail xs t ≤ a
    · refine ⟨hta, ?_⟩
      rw [it_mod h ht hta, it_mod h ht (show tail xs t ≤ b by omega)] at e
      have m1 := Nat.mod_lt (a - tail xs t) hl
      have m2 := Nat.mod_lt (b - tail xs t) hl
      have := it_inj h ht (by omega) (by omega) e
      have hmod : (a - tail xs t) % loop xs t = (b - tail xs t) % loop xs t := by omega
      have := Nat.dvd_of_mod_eq_zero (Nat.sub_mod_eq_zero_of_mod_eq hmod.symm)
      rwa [show b - tail xs t - (a - tail xs t) = b - a by omega] at this
    · exfalso
      by_cases hb : b < rho xs t
      · have := it_inj h ht (by omega) hb e
        omega
      · rw [it_mod h ht (show tail xs t ≤ b by omega)] at e
        have m2 := Nat.mod_lt (b - tail xs t) hl
        have := it_inj h ht (by omega) (by omega) e
        omega
  · rintro ⟨hta, q, hq⟩
    have e : b = a + q * loop xs t := by rw [Nat.mul_comm] at hq; omega
    rw [e, it_rounds h ht hta]

/-- the tail and the loop are told by what they do -/
theorem tail_loop_of {xs : List Int} (h : Good xs) {t : Nat} (ht : t < xs.length) {T L : Nat} (hL : 0 < L) (e : it xs (T + L) t = it xs T t) (hd : ∀ i j, i < j → j < T + L → it xs i t ≠ it xs j t) : tail xs t = T ∧ loop xs t = L := by
  have hl := loop_pos h ht
  obtain ⟨h1, h2⟩ := (it_eq_iff h ht (show T < T + L by omega)).1 e.symm
  rw [show T + L - T = L by omega] at h2
  have h3 := Nat.le_of_dvd hL h2
  have h4 : T + L ≤ tail xs t + loop xs t := by
    rcases Nat.lt_or_ge (tail xs t + loop xs t) (T + L) with hlt | hge
    · exact absurd (it_round h ht (Nat.le_refl _)).symm (hd _ _ (by omega) hlt)
    · exact hge
  omega

theorem tail_loop_next {xs : List Int} (h : Good xs) {t : Nat} (ht : t < xs.length) : tail xs (ap xs t) = tail xs t - 1 ∧ loop xs (ap xs t) = loop xs t := by
  have hl := loop_pos h ht
  refine tail_loop_of h (h.ap_lt ht) hl ?_ ?_
  · rw [← it_succ', ← it_succ', show tail xs t - 1 + loop xs t + 1 = (tail xs t - 1 + 1) + loop xs t by omega]
    exact it_round h ht (by omega)
  · intro i j hij hj e
    rw [← it_succ', ← it_succ'] at e
    obtain ⟨h1, h2⟩ := (it_eq_iff h ht (show i + 1 < j + 1 by omega)).1 e
    have := Nat.le_of_dvd (by omega) h2
    omega
theorem tail_next {xs : List Int} (h : Good xs) {t : Nat} (ht : t < xs.length) : tail xs (ap xs t) = tail xs t - 1 := (tail_loop_next h ht).1
theorem loop_next {xs : List Int} (h : Good xs) {t : Nat} (ht : t < xs.length) : loop xs (ap xs t) = loop xs t := (tail_loop_next h ht).2
theorem tail_it_eq {xs : List Int} (h : Good xs) {t : Nat} (ht : t < xs.length) (j : Nat) : tail xs (it xs j t) = tail xs t - j := by
  induction j with
  | zero => rfl
  | succ j ih => show tail xs (ap xs (it xs j t)) = _; rw [tail_next h (h.it_lt ht j), ih]; omega
theorem loop_it_eq {xs : List Int} (h : Good xs) {t : Nat} (ht : t < xs.length) (j : Nat) : loop xs (it xs j t) = loop xs t := by
  induction j with
  | zero => rfl
  | succ j ih => show loop xs (ap xs (it xs j t)) = _; rw [loop_next h (h.it_lt ht j), ih]
theorem tail_zero_iff {xs : List Int} (h : Good xs) {t : Nat} (ht : t < xs.length) : tail xs t = 0 ↔ ∃ p, 0 < p ∧ it xs p t = t := by
  constructor
  · intro e
    refine ⟨loop xs t, loop_pos h ht, ?_⟩
    have := it_round h ht (a := 0) (by omega)
    simpa [it] using this
  · rintro ⟨p, hp, e⟩
    have := (it_eq_iff h ht (show 0 < p by omega)).1 e.symm
    omega
theorem tail_le {xs : List Int} (h : Good xs) {t : Nat} (ht : t < xs.length) : tail xs t < xs.length := by
  have := tail_lt h ht
  have := rho_le h ht
  omega

/-! ### the least thing of a loop -/
/-- the least of some numbers -/
def minL : List Nat → Nat
  | [] => 0
  | [x] => x
  | x :: y :: r => min x (minL (y :: r))
theorem minL_mem : ∀ (l : List Nat), l ≠ [] → minL l ∈ l
  | [], h => absurd rfl h
  | [x], _ => by simp [minL]
  | x :: y :: r, _ => by
    have := minL_mem (y :: r) (by simp)
    simp only [minL]
    rcases Nat.le_total x (minL (y :: r)) with h | h
    · rw [Nat.min_eq_left h]; simp
    · rw [Nat.min_eq_right h]; exact List.mem_cons_of_mem _ this
theorem minL_le : ∀ (l : List Nat), ∀ x ∈ l, minL l ≤ x
  | [], x, h => by simp at h
  | [y], x, h => by simp at h; subst h; exact Nat.le_refl _
  | y :: z :: r, x, h => by
    simp only [minL]
    rcases List.mem_cons.1 h with rfl | h
    · exact Nat.min_le_left _ _
    · exact Nat.le_trans (Nat.min_le_right _ _) (minL_le (z :: r) x h)
theorem minL_eq {l : List Nat} {m : Nat} (hm : m ∈ l) (h : ∀ x ∈ l, m ≤ x) : minL l = m := by
  have h1 := h _ (minL_mem l (by intro e; subst e; simp at hm))
  have h2 := minL_le l m hm
  omega
theorem minL_congr {l r : List Nat} (hl : l ≠ []) (h : ∀ x, x ∈ l ↔ x ∈ r) : minL l = minL r :=
  (minL_eq ((h _).1 (minL_mem l hl)) (fun x hx => minL_le l x ((h x).2 hx))).symm

/-- the things of the loop, from the one to which the way comes first -/
def loopL (xs : List Int) (t : Nat) : List Nat := (way xs t).drop (tail xs t)
def loopOf (xs : List Int) (t : Nat) : Nat := minL (loopL xs t)
theorem loopL_len {xs : List Int} {t : Nat} : (loopL xs t).length = loop xs t := by simp [loopL, way, walk, loop]
theorem mem_loopL {xs : List Int} (h : Good xs) {t : Nat} (ht : t < xs.length) {x : Nat} : x ∈ loopL xs t ↔ ∃ a, tail xs t ≤ a ∧ it xs a t = x := by
  have hr := rho_eq h ht
  constructor
  · intro hx
    obtain ⟨i, hi, rfl⟩ := List.getElem_of_mem hx
    refine ⟨tail xs t + i, by omega, ?_⟩
    simp [loopL, way, walk]
  · rintro ⟨a, ha, rfl⟩
    rw [it_mod h ht ha]
    have m := Nat.mod_lt (a - tail xs t) (loop_pos h ht)
    generalize (a - tail xs t) % loop xs t = i at *
    have hi : i < (loopL xs t).length := by rw [loopL_len]; exact m
    have : (loopL xs t)[i] = it xs (tail xs t + i) t := by simp [loopL, way, walk]
    rw [← this]
    exact List.getElem_mem hi
theorem loopL_ne {xs : List Int} (h : Good xs) {t : Nat} (ht : t < xs.length) : loopL xs t ≠ [] := by
  intro e
  have := loop_pos h ht
  rw [← loopL_len, e] at this
  simp at this
theorem loopOf_next {xs : List Int} (h : Good xs) {t : Nat} (ht : t < xs.length) : loopOf xs (ap xs t) = loopOf xs t := by
  refine minL_congr (loopL_ne h (h.ap_lt ht)) (fun x => ?_)
  rw [mem_loopL h (h.ap_lt ht), mem_loopL h ht, tail_next h ht]
  constructor
  · rintro ⟨a, ha, e⟩
    exact ⟨a + 1, by omega, by rw [it_succ']; exact e⟩
  · rintro ⟨b, hb, e⟩
    have hl := loop_pos h ht
    refine ⟨b + loop xs t - 1, by omega, ?_⟩
    rw [← it_succ', show b + loop xs t - 1 + 1 = b + loop xs t by omega, it_round h ht hb, e]
theorem loopOf_it {xs : List Int} (h : Good xs) {t : Nat} (ht : t < xs.length) (j : Nat) : loopOf xs (it xs j t) = loopOf xs t := by
  induction j with
  | zero => rfl
  | succ j ih => show loopOf xs (ap xs (it xs j t)) = _; rw [loopOf_next h (h.it_lt ht j), ih]
theorem loopOf_mem {xs : List Int} (h : Good xs) {t : Nat} (ht : t < xs.length) : ∃ a, tail xs t ≤ a ∧ it xs a t = loopOf xs t := (mem_loopL h ht).1 (minL_mem _ (loopL_ne h ht))
theorem loopOf_lt {xs : List Int} (h : Good xs) {t : Nat} (ht : t < xs.length) : loopOf xs t < xs.length := by
  obtain ⟨a, _, e⟩ := loopOf_mem h ht
  rw [← e]
  exact h.it_lt ht a
theorem loopOf_tail {xs : List Int} (h : Good xs) {t : Nat} (ht : t < xs.length) : tail xs (loopOf xs t) = 0 := by
  obtain ⟨a, ha, e⟩ := loopOf_mem h ht
  rw [← e, tail_it_eq h ht]
  omega
theorem loopOf_self {xs : List Int} (h : Good xs) {t : Nat} (ht : t < xs.length) (e : loopOf xs t = t) : tail xs t = 0 := by
  have := loopOf_tail h ht
  rwa [e] at this
theorem loopOf_idem {xs : List Int} (h : Good xs) {t : Nat} (ht : t < xs.length) : loopOf xs (loopOf xs t) = loopOf xs t := by
  obtain ⟨a, ha, e⟩ := loopOf_mem h ht
  conv => lhs; rw [← e]
  exact loopOf_it h ht a

end Go.Proofs.Ytkbfcaaihellfaa

/- Words for slices of integers: what a slice reads as; what the call owns; append, make. -/
namespace Go.Proofs.Ytkbfcaaihellfaa
open Go.RowKit
set_option linter.unusedVariables false



/-- the slice at A reads as xs -/
def RdA (w : World) (A : Option Addr) (xs : List Int) : Prop := ∀ k, k < xs.length → ∃ ad, A = some ad ∧ w.cell? (ad.add k) = some (.int .i64 (nth xs k))
/-- the slice v is the call's own (from block B on) and holds xs -/
def Own (B : Nat) (w : World) (v : Value) (xs : List Int) : Prop := w.ownsRow B 3 1 v xs.length (xs.map (Value.int .i64))
/-- a new slice that holds xs is handed back; what was there stays -/
def RetI (w : World) (xs : List Int) (e : Ending) (w' : World) : Prop := ∃ A c, e = .returned (.slice A xs.length c) ∧ Own w.heap.size w' (.slice A xs.length c) xs ∧ Below w.heap.size w w'

theorem block_of_add (a : Addr) (n : Nat) : (a.add n).block = a.block := by unfold Addr.add; split <;> rfl
theorem lt_of_cell {w : World} {a : Addr} {v : Value} (h : w.cell? a = some v) : a.block < w.heap.size := block_lt_of_cell h

theorem RdA.below {w w' : World} {A : Option Addr} {xs : List Int} (h : RdA w A xs) (hb : Below w.heap.size w w') : RdA w' A xs := fun k hk => by
  obtain ⟨ad, e, hc⟩ := h k hk
  exact ⟨ad, e, (hb.cell (lt_of_cell hc)).trans hc⟩
theorem RdA.nil {w : World} {A : Option Addr} : RdA w A [] := fun k hk => absurd hk (by simp)
theorem RdA.drew {w : World} {A : Option Addr} {xs : List Int} (h : RdA w A xs) : RdA w.drew A xs := h
theorem RdA.at_ {w : World} {A : Option Addr} {xs : List Int} (h : RdA w A xs) {k : Nat} (hk : k < xs.length) : ∃ ad, A = some ad ∧ w.cell? (ad.add k) = some (.int .i64 (nth xs k)) := h k hk
theorem RdA.some_ {w : World} {A : Option Addr} {xs : List Int} (h : RdA w A xs) (hx : 0 < xs.length) : ∃ ad, A = some ad ∧ ∀ k, k < xs.length → w.cell? (ad.add k) = some (.int .i64 (nth xs k)) := by
  obtain ⟨ad, e, _⟩ := h 0 hx
  refine ⟨ad, e, fun k hk => ?_⟩
  obtain ⟨ad', e', hc⟩ := h k hk
  rw [e] at e'
  injection e' with e'
  subst e'
  exact hc

theorem Own.mono {B B' : Nat} {w : World} {v : Value} {xs : List Int} (h : Own B w v xs) (hB : B' ≤ B) : Own B' w v xs := by
  refine ⟨h.1, ?_⟩
  rcases h.2 with h2 | ⟨g, cap, cur, hv, hg, r⟩
  · exact .inl h2
  · exact .inr ⟨g, cap, cur, hv, Nat.le_trans hB hg, r⟩
theorem Own.kept {B : Nat} {w w' : World} {v : Value} {xs : List Int} {row : Option Nat} (h : Own B w v xs) (hg : w.grownBy w' row) (hne : v.ownBlock = none ∨ v.ownBlock ≠ row) : Own B w' v xs := World.ownsRow.kept h hg hne
theorem grown_of_below {w w' : World} (hb : Below w.heap.size w w') (row : Option Nat) : w.grownBy w' row := ⟨hb.os, hb.tape, hb.output, hb.size, fun k hk _ => hb.block k hk⟩
theorem Own.below {B : Nat} {w w' : World} {v : Value} {xs : List Int} (h : Own B w v xs) (hb : Below w.heap.size w w') : Own B w' v xs := by
  rcases hv : v.ownBlock with _ | g
  · exact h.kept (grown_of_below hb none) (.inl hv)
  · exact h.kept (grown_of_below hb none) (.inr (by rw [hv]; simp))
theorem Own.alloc {B : Nat} {w : World} {v : Value} {xs : List Int} (h : Own B w v xs) (o : Obj) : Own B (w.alloc o) v xs := h.below ((Below.refl _ _).alloc (Nat.le_refl _) o)
theorem Own.drew {B : Nat} {w : World} {v : Value} {xs : List Int} (h : Own B w v xs) : Own B w.drew v xs := h
theorem Own.lt {B : Nat} {w : World} {v : Value} {xs : List Int} (h : Own B w v xs) : ∀ k, v.ownBlock = some k → B ≤ k ∧ k < w.heap.size := World.ownsRow.lt h
theorem Own.nil (B : Nat) (w : World) : Own B w (.slice none 0 0) [] := World.ownsRow_nil _ _ _ _
theorem Own.new_ (w : World) (xs : List Int) (cs : Array Value) (hcs : cs = (xs.map (Value.int .i64)).toArray) (h : xs.length ≤ maxLen) : Own w.heap.size (w.alloc (.cells cs 3)) (.slice (some ⟨w.heap.size, 0, none⟩) xs.length xs.length) xs := by
  have := World.ownsRow_lit (base := w.heap.size) (e := 3) (size := 1) w cs xs.length (Nat.le_refl _) h (by rw [hcs]; simp)
  unfold Own
  rw [hcs] at this ⊢
  simpa using this

/-- the shape of a slice that is owned -/
theorem Own.form {B : Nat} {w : World} {v : Value} {xs : List Int} (h : Own B w v xs) : ∃ A c, v = .slice A xs.length c ∧ RdA w A xs := by
  rcases h.2 with ⟨rfl, h0⟩ | ⟨g, cap, cur, rfl, hg, hh, r⟩
  · refine ⟨none, 0, by rw [h0], fun k hk => by omega⟩
  · refine ⟨some ⟨g, 0, none⟩, cap, rfl, fun k hk => ⟨_, rfl, ?_⟩⟩
    have := World.ownsRow.cells h (g := g) rfl k (.int .i64 (nth xs k)) (by rw [List.getElem?_map, List.getElem?_eq_getElem hk, nth_lt hk]; rfl)
    exact this
theorem Own.rd {B : Nat} {w : World} {A : Option Addr} {n c : Nat} {xs : List Int} (h : Own B w (.slice A n c) xs) : RdA w A xs := by
  obtain ⟨A', c', e, hr⟩ := h.form
  injection e with e1 e2 e3
  subst e1
  exact hr
theorem Own.len {B : Nat} {w : World} {A : Option Addr} {n c : Nat} {xs : List Int} (h : Own B w (.slice A n c) xs) : n = xs.length := by
  obtain ⟨A', c', e, hr⟩ := h.form
  injection e
theorem Own.pos {B : Nat} {w : World} {v : Value} {xs : List Int} (h : Own B w v xs) (hx : 0 < xs.length) : ∃ g c, v = .slice (some ⟨g, 0, none⟩) xs.length c ∧ B ≤ g ∧ g < w.heap.size := by
  rcases h.2 with ⟨rfl, h0⟩ | ⟨g, cap, cur, rfl, hg, hh, r⟩
  · omega
  · exact ⟨g, cap, rfl, hg, lt_of_block hh⟩
theorem add_g (g k : Nat) : (⟨g, 0, none⟩ : Addr).add k = ⟨g, k, none⟩ := by unfold Addr.add; split <;> simp_all
theorem Own.cell {B g n c : Nat} {w : World} {xs : List Int} (h : Own B w (.slice (some ⟨g, 0, none⟩) n c) xs) {k : Nat} (hk : k < xs.length) : w.cell? ⟨g, k, none⟩ = some (.int .i64 (nth xs k)) := by
  obtain ⟨ad, e, hc⟩ := h.rd k hk
  injection e with e
  subst e
  rwa [add_g] at hc
theorem Own.frozen {B g n c : Nat} {w : World} {xs : List Int} (h : Own B w (.slice (some ⟨g, 0, none⟩) n c) xs) (k : Nat) : w.frozen? ⟨g, k, none⟩ = false := by
  obtain rfl := h.len
  exact World.ownsRow.frozenAt h k
theorem Own.store {B g n c : Nat} {w : World} {xs : List Int} (h : Own B w (.slice (some ⟨g, 0, none⟩) n c) xs) (k : Nat) (u : Int) :
    Own B (w.setCell ⟨g, k, none⟩ (.int .i64 u)) (.slice (some ⟨g, 0, none⟩) n c) (xs.set k u) := by
  obtain rfl := h.len
  have := (World.ownsRow.stored h k (.int .i64 u)).1
  unfold Own
  rw [List.map_set, List.length_set]
  exact this
theorem Own.ge {B g n c : Nat} {w : World} {xs : List Int} (h : Own B w (.slice (some ⟨g, 0, none⟩) n c) xs) : B ≤ g ∧ g < w.heap.size := h.lt g rfl

theorem cell_one1 (w : World) (v : Value) (t : TypeId) : (w.alloc (.cells #[v] t)).cell? ⟨w.heap.size, 0, none⟩ = some v := by
  rw [World.cell?_alloc_at _ _ _ _ rfl]; rfl
theorem info_int : (Try.prog.info? 3).map (fun i => (i.zero, i.size, i.bytes)) = some (some (.int .i64 0), 1, 8) := by kernel_rfl

/-- append of one number -/
theorem wpList_app1 {ops : Array Oper} {rest : List Oper} {o : Oper} {a : Act} {Q : Exit → Act → World → Prop} (w : World) (hgd : o.guard = none) (s x : Operand)
    (ho : o.op = .call { callee := .builtin .append, args := #[s, x], argTypes := #[22, 22] })
    (base : Nat) (v : Value) (xs : List Int) (hs : a.eval s = v) (hown : Own base w v xs) (g : Nat) (z : Int) (hx : a.eval x = .slice (some ⟨g, 0, none⟩) 1 1)
    (hc : w.cell? ⟨g, 0, none⟩ = some (.int .i64 z)) (hlen : xs.length ≤ 1000000000000) (hbase : base ≤ w.heap.size)
    (hK : ∀ A c w', Own base w' (.slice A (xs.length + 1) c) (xs ++ [z]) → Below base w w' → wpList Try.prog ops Q rest (a.put o.dst (.slice A (xs.length + 1) c)) w') : wpList Try.prog ops Q (o :: rest) a w := by
  obtain ⟨i0, hi, hz0, hz1, hz2⟩ := info_parts info_int
  refine wpList_append_own w hgd s x 22 ho base 3 i0 (.int .i64 0) 1 8 Try.underlying22 hi hz0 hz1 hz2 rfl (by decide) v xs.length (xs.map (Value.int .i64)) hs hown ⟨g, 0, none⟩ 1 1 [.int .i64 z] hx rfl ?_ ?_ ?_ ?_ hbase ?_
  · intro j u hj
    match j, hj with
    | 0, hj => simp at hj; subst hj; simpa [Addr.add] using hc
  · intro u hu; simp at hu; subst hu; rfl
  · unfold maxLen; omega
  · omega
  · intro v' w' hown' hgrow _
    have ho' : Own base w' v' (xs ++ [z]) := by unfold Own; simpa using hown'
    obtain ⟨A, c, e, _⟩ := ho'.form
    rw [e] at ho' ⊢
    rw [List.length_append] at ho' ⊢
    exact hK A c w' ho' ((Below.refl base w).grown hgrow hbase (fun k hk => (hown.lt k hk).1))

/-- make of n zeros -/
theorem wpList_mk {ops : Array Oper} {rest : List Oper} {o : Oper} {a : Act} {Q : Exit → Act → World → Prop} (w : World) (hg : o.guard = none) (l c : Operand) (hop : o.op = Op.makeSlice 22 l c)
    (N : Int) (n : Nat) (hl : a.eval l = .int .i64 N) (hc : a.eval c = .int .i64 N) (hN : N = (n : Int)) (hn : n ≤ 1000000000000)
    (hK : ∀ w', Own w.heap.size w' (.slice (some ⟨w.heap.size, 0, none⟩) n n) (List.replicate n 0) → Below w.heap.size w w' → wpList Try.prog ops Q rest (a.put o.dst (.slice (some ⟨w.heap.size, 0, none⟩) n n)) w') :
    wpList Try.prog ops Q (o :: rest) a w := by
  obtain ⟨i0, hi, hz0, hz1, hz2⟩ := info_parts info_int
  refine wpList_make_full w hg l c 22 hop w.heap.size 3 i0 (.int .i64 0) 1 Try.underlying22 hi hz0 hz1 .i64 .i64 N N n hl hc hN hN (by rw [hz2]; omega) (by unfold maxLen; omega) (Nat.le_refl _) ?_
  intro w' hown hgrow
  refine hK w' ?_ ((Below.refl _ w).grown hgrow (Nat.le_refl _) (fun k hk => by cases hk))
  unfold Own
  simp only [Value.cells, toList_madeCells_one, Nat.mul_one] at hown
  simpa using hown

end Go.Proofs.Ytkbfcaaihellfaa
