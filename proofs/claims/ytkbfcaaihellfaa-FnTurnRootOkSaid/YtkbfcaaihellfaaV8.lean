/- Steps on the way to the law; each part says what it proves. -/
import Derived.Test.YtkbfcaaihellfaaV7
import Derived.WalkKit
import Derived.Maps.AppendAt
import Derived.BigQuiet

set_option linter.unusedSimpArgs false

/- Plain law: iterating a map of few things: ways, tails, loops. No program in sight. -/
namespace Go.Proofs.Ytkbfcaaihellfaa
set_option linter.unusedVariables false

/-- the k-th number of a list, 0 beyond its end -/
def nth (xs : List Int) (k : Nat) : Int := xs[k]?.getD 0
theorem nth_lt {xs : List Int} {k : Nat} (h : k < xs.length) : nth xs k = xs[k] := by simp [nth, h]
theorem nth_mem {xs : List Int} {k : Nat} (h : k < xs.length) : nth xs k ∈ xs := by rw [nth_lt h]; exact List.getElem_mem h
theorem nth_app_lt {xs ys : List Int} {k : Nat} (h : k < xs.length) : nth (xs ++ ys) k = nth xs k := by simp [nth, List.getElem?_append_left h]
theorem nth_app_end (xs : List Int) (z : Int) : nth (xs ++ [z]) xs.length = z := by simp [nth]
theorem take_nth {xs : List Int} {k : Nat} (h : k < xs.length) : xs.take (k + 1) = xs.take k ++ [nth xs k] := by
  rw [List.take_add_one, nth_lt h, List.getElem?_eq_getElem h]; rfl

theorem all_of_nth {xs : List Int} {p : Int → Prop} (h : ∀ k, k < xs.length → p (nth xs k)) : ∀ x ∈ xs, p x := by
  intro x hx
  obtain ⟨k, hk, rfl⟩ := List.getElem_of_mem hx
  rw [← nth_lt hk]
  exact h k hk
def mapOkB (xs : List Int) : Bool := decide (1 ≤ xs.length ∧ xs.length ≤ 7) && xs.all fun x => decide (0 ≤ x) && decide (x < xs.length)
theorem mapOkB_no {xs : List Int} {k : Nat} (hk : k < xs.length) (h : ¬ (0 ≤ nth xs k ∧ nth xs k < xs.length)) : mapOkB xs = false := by
  simp only [mapOkB, Bool.and_eq_false_iff]
  right
  rw [List.all_eq_false]
  exact ⟨_, nth_mem hk, by simpa using h⟩
theorem mapOkB_len {xs : List Int} (h : ¬ (1 ≤ xs.length ∧ xs.length ≤ 7)) : mapOkB xs = false := by
  simp only [mapOkB, Bool.and_eq_false_iff]
  left
  simpa using h
theorem mapOkB_all {xs : List Int} (h : ∀ k, k < xs.length → 0 ≤ nth xs k ∧ nth xs k < xs.length) : mapOkB xs = decide (1 ≤ xs.length ∧ xs.length ≤ 7) := by
  have := all_of_nth (p := fun x => 0 ≤ x ∧ x < xs.length) h
  simp only [mapOkB]
  rw [List.all_eq_true.2 (fun x hx => by simpa using this x hx), Bool.and_true]
theorem mapOkB_elim {xs : List Int} (h : mapOkB xs = true) : (1 ≤ xs.length ∧ xs.length ≤ 7) ∧ ∀ k, k < xs.length → 0 ≤ nth xs k ∧ nth xs k < xs.length := by
  simp only [mapOkB, Bool.and_eq_true, decide_eq_true_eq] at h
  refine ⟨h.1, fun k hk => ?_⟩
  have := List.all_eq_true.1 h.2 _ (nth_mem hk)
  simpa using this

/-- to what a thing is led -/
def ap (xs : List Int) (k : Nat) : Nat := (nth xs k).toNat
/-- where one stands after j steps -/
def it (xs : List Int) : Nat → Nat → Nat
  | 0, t => t
  | j + 1, t => ap xs (it xs j t)

def Good (xs : List Int) : Prop := (1 ≤ xs.length ∧ xs.length ≤ 7) ∧ ∀ k, k < xs.length → 0 ≤ nth xs k ∧ nth xs k < xs.length

theorem good_of {xs : List Int} (h : mapOkB xs = true) : Good xs := mapOkB_elim h
theorem ok_of {xs : List Int} (h : Good xs) : mapOkB xs = true := by
  rw [mapOkB_all h.2]
  simpa using h.1
theorem Good.ap_lt {xs : List Int} (h : Good xs) {k : Nat} (hk : k < xs.length) : ap xs k < xs.length := by
  have := h.2 k hk
  unfold ap
  omega
theorem Good.nth_ap {xs : List Int} (h : Good xs) {k : Nat} (hk : k < xs.length) : nth xs k = (ap xs k : Int) := by
  have := h.2 k hk
  unfold ap
  omega
theorem Good.it_lt {xs : List Int} (h : Good xs) {t : Nat} (ht : t < xs.length) (j : Nat) : it xs j t < xs.length := by
  induction j with
  | zero => exact ht
  | succ j ih => exact h.ap_lt ih
theorem it_add (xs : List Int) (i j t : Nat) : it xs (i + j) t = it xs i (it xs j t) := by
  induction i with
  | zero => simp [it]
  | succ i ih => rw [Nat.succ_add]; simp [it, ih]
theorem it_one (xs : List Int) (t : Nat) : it xs 1 t = ap xs t := rfl
theorem it_succ' (xs : List Int) (j t : Nat) : it xs (j + 1) t = it xs j (ap xs t) := it_add xs j 1 t

/-! ### so many things, no more -/
theorem nodup_lt_len : ∀ (n : Nat) (l : List Nat), l.Nodup → (∀ x ∈ l, x < n) → l.length ≤ n
  | 0, l, _, h => by
    cases l with
    | nil => simp
    | cons x l => exact absurd (h x (by simp)) (by omega)
  | n + 1, l, hn, h => by
    by_cases hm : n ∈ l
    · have h1 := nodup_lt_len n (l.erase n) (hn.erase n) (fun x hx => by
        have hx' := (List.Nodup.mem_erase_iff hn).1 hx
        have := h x hx'.2
        omega)
      rw [List.length_erase_of_mem hm] at h1
      omega
    · have h1 := nodup_lt_len n l hn (fun x hx => by
        have := h x hx
        have : x ≠ n := fun e => hm (e ▸ hx)
        omega)
      omega

/-- the first m things on the way -/
def walk (xs : List Int) (t m : Nat) : List Nat := (List.range m).map fun j => it xs j t
theorem walk_succ (xs : List Int) (t m : Nat) : walk xs t (m + 1) = walk xs t m ++ [it xs m t] := by simp [walk, List.range_succ]
theorem walk_len (xs : List Int) (t m : Nat) : (walk xs t m).length = m := by simp [walk]
theorem mem_walk {xs : List Int} {t m x : Nat} : x ∈ walk xs t m ↔ ∃ j, j < m ∧ it xs j t = x := by simp [walk]

/-- how many different things the way has: the search goes on while the next thing is new -/
def rhoF (xs : List Int) (t : Nat) : Nat → Nat → Nat
  | 0, m => m
  | f + 1, m => if it xs m t ∈ walk xs t m then m else rhoF xs t f (m + 1)
def rho (xs : List Int) (t : Nat) : Nat := rhoF xs t 8 0

theorem rhoF_spec {xs : List Int} (h : Good xs) {t : Nat} (ht : t < xs.length) : ∀ (f m : Nat), (walk xs t m).Nodup → 8 ≤ f + m →
    (walk xs t (rhoF xs t f m)).Nodup ∧ it xs (rhoF xs t f m) t ∈ walk xs t (rhoF xs t f m)
  | 0, m, hn, hm => by
    exfalso
    have h1 := nodup_lt_len xs.length _ hn (fun x hx => by obtain ⟨j, _, rfl⟩ := mem_walk.1 hx; exact h.it_lt ht j)
    rw [walk_len] at h1
    have := h.1
    omega
  | f + 1, m, hn, hm => by
    unfold rhoF
    by_cases hx : it xs m t ∈ walk xs t m
    · rw [if_pos hx]
      exact ⟨hn, hx⟩
    · rw [if_neg hx]
      refine rhoF_spec h ht f (m + 1) ?_ (by omega)
      rw [walk_succ]
      rw [List.nodup_append]
      refine ⟨hn, by simp, fun a ha b hb => ?_⟩
      rw [List.mem_singleton] at hb
      subst hb
      exact fun e => hx (e ▸ ha)

theorem rho_nodup {xs : List Int} (h : Good xs) {t : Nat} (ht : t < xs.length) : (walk xs t (rho xs t)).Nodup := (rhoF_spec h ht 8 0 (by simp [walk]) (by omega)).1
theorem rho_back {xs : List Int} (h : Good xs) {t : Nat} (ht : t < xs.length) : it xs (rho xs t) t ∈ walk xs t (rho xs t) := (rhoF_spec h ht 8 0 (by simp [walk]) (by omega)).2
theorem rho_le {xs : List Int} (h : Good xs) {t : Nat} (ht : t < xs.length) : rho xs t ≤ xs.length := by
  have h1 := nodup_lt_len xs.length _ (rho_nodup h ht) (fun x hx => by obtain ⟨j, _, rfl⟩ := mem_walk.1 hx; exact h.it_lt ht j)
  rwa [walk_len] at h1
theorem rho_pos {xs : List Int} (h : Good xs) {t : Nat} (ht : t < xs.length) : 0 < rho xs t := by
  obtain ⟨j, hj, _⟩ := mem_walk.1 (rho_back h ht)
  omega

/-- the way of a thing -/
def way (xs : List Int) (t : Nat) : List Nat := walk xs t (rho xs t)
/-- how long its tail is -/
def tail (xs : List Int) (t : Nat) : Nat := (way xs t).idxOf (it xs (rho xs t) t)
/-- how many things its loop has -/
def loop (xs : List Int) (t : Nat) : Nat := rho xs t - tail xs t

theorem tail_lt {xs : List Int} (h : Good xs) {t : Nat} (ht : t < xs.length) : tail xs t < rho xs t := by
  have := List.idxOf_lt_length_of_mem (rho_back h ht)
  rwa [walk_len] at this
theorem walk_get (xs : List Int) (t m i : Nat) (hi : i < (walk xs t m).length) : (walk xs t m)[i] = it xs i t := by simp [walk]
theorem tail_it {xs : List Int} (h : Good xs) {t : Nat} (ht : t < xs.length) : it xs (tail xs t) t = it xs (rho xs t) t := by
  have h1 := List.getElem_idxOf (List.idxOf_lt_length_of_mem (rho_back h ht))
  rw [walk_get] at h1
  exact h1
theorem it_inj {xs : List Int} (h : Good xs) {t : Nat} (ht : t < xs.length) {i j : Nat} (hi : i < rho xs t) (hj : j < rho xs t) (e : it xs i t = it xs j t) : i = j := by
  have h1 := rho_nodup h ht
  have h2 := List.pairwise_iff_getElem.1 h1
  rcases Nat.lt_trichotomy i j with hlt | rfl | hlt
  · have := h2 i j (by rw [walk_len]; exact hi) (by rw [walk_len]; exact hj) hlt
    rw [walk_get, walk_get] at this
    exact absurd e this
  · rfl
  · have := h2 j i (by rw [walk_len]; exact hj) (by rw [walk_len]; exact hi) hlt
    rw [walk_get, walk_get] at this
    exact absurd e.symm this
theorem loop_pos {xs : List Int} (h : Good xs) {t : Nat} (ht : t < xs.length) : 0 < loop xs t := by
  have := tail_lt h ht
  unfold loop
  omega
theorem rho_eq {xs : List Int} (h : Good xs) {t : Nat} (ht : t < xs.length) : rho xs t = tail xs t + loop xs t := by
  have := tail_lt h ht
  unfold loop
  omega

/-- behind the tail one comes round -/
theorem it_round {xs : List Int} (h : Good xs) {t : Nat} (ht : t < xs.length) {a : Nat} (ha : tail xs t ≤ a) : it xs (a + loop xs t) t = it xs a t := by
  obtain ⟨d, rfl⟩ : ∃ d, a = d + tail xs t := ⟨a - tail xs t, by omega⟩
  rw [it_add xs d (tail xs t), tail_it h ht, show d + tail xs t + loop xs t = d + rho xs t by rw [rho_eq h ht]; omega, it_add]
theorem it_rounds {xs : List Int} (h : Good xs) {t : Nat} (ht : t < xs.length) {a : Nat} (ha : tail xs t ≤ a) (q : Nat) : it xs (a + q * loop xs t) t = it xs a t := by
  induction q with
  | zero => simp
  | succ q ih => rw [Nat.succ_mul, ← Nat.add_assoc, it_round h ht (by omega), ih]
/-- every step leads to one of the first rho -/
theorem it_mod {xs : List Int} (h : Good xs) {t : Nat} (ht : t < xs.length) {a : Nat} (ha : tail xs t ≤ a) : it xs a t = it xs (tail xs t + (a - tail xs t) % loop xs t) t := by
  have e : a = tail xs t + (a - tail xs t) % loop xs t + (a - tail xs t) / loop xs t * loop xs t := by
    have := Nat.mod_add_div (a - tail xs t) (loop xs t)
    rw [Nat.mul_comm] at this
    omega
  conv => lhs; rw [e]
  exact it_rounds h ht (by omega) _

/-- WHEN ONE STANDS ON ONE THING TWICE -/
theorem it_eq_iff {xs : List Int} (h : Good xs) {t : Nat} (ht : t < xs.length) {a b : Nat} (hab : a < b) : it xs a t = it xs b t ↔ tail xs t ≤ a ∧ loop xs t ∣ b - a := by
  have hl := loop_pos h ht
  have hr := rho_eq h ht
  constructor
  · intro e
    by_cases hta : tail xs t ≤ a
    · refine ⟨hta, ?_⟩
      rw [it_mod h ht hta, it_mod h ht (show tail xs t ≤ b by omega)] at e
      have m1 := Nat.mod_lt (a - tail xs t) hl
      have m2 := Nat.mod_lt (b - tail xs t) hl
      have := it_inj h ht (by omega) (by omega) e
      have hmod : (a - tail xs t) % loop xs t = (b - tail xs t) % loop xs t := by omega
      have := Nat.dvd_of_mod_eq_zero (Nat.sub_mod_eq_zero_of_mod_eq hmod.symm)
      rwa [show b - tail xs t - (a - tail xs t) = b - a by omega] at this
    · exfalso
      by_cases hb : b < rho xs t
      · have := it_inj h ht (by omega) hb e
        omega
      · rw [it_mod h ht (show tail xs t ≤ b by omega)] at e
        have m2 := Nat.mod_lt (b - tail xs t) hl
        have := it_inj h ht (by omega) (by omega) e
        omega
  · rintro ⟨hta, q, hq⟩
    have e : b = a + q * loop xs t := by rw [Nat.mul_comm] at hq; omega
    rw [e, it_rounds h ht hta]

/-- the tail and the loop are told by what they do -/
theorem tail_loop_of {xs : List Int} (h : Good xs) {t : Nat} (ht : t < xs.length) {T L : Nat} (hL : 0 < L) (e : it xs (T + L) t = it xs T t) (hd : ∀ i j, i < j → j < T + L → it xs i t ≠ it xs j t) : tail xs t = T ∧ loop xs t = L := by
  have hl := loop_pos h ht
  obtain ⟨h1, h2⟩ := (it_eq_iff h ht (show T < T + L by omega)).1 e.symm
  rw [show T + L - T = L by omega] at h2
  have h3 := Nat.le_of_dvd hL h2
  have h4 : T + L ≤ tail xs t + loop xs t := by
    rcases Nat.lt_or_ge (tail xs t + loop xs t) (T + L) with hlt | hge
    · exact absurd (it_round h ht (Nat.le_refl _)).symm (hd _ _ (by omega) hlt)
    · exact hge
  omega

theorem tail_loop_next {xs : List Int} (h : Good xs) {t : Nat} (ht : t < xs.length) : tail xs (ap xs t) = tail xs t - 1 ∧ loop xs (ap xs t) = loop xs t := by
  have hl := loop_pos h ht
  refine tail_loop_of h (h.ap_lt ht) hl ?_ ?_
  · rw [← it_succ', ← it_succ', show tail xs t - 1 + loop xs t + 1 = (tail xs t - 1 + 1) + loop xs t by omega]
    exact it_round h ht (by omega)
  · intro i j hij hj e
    rw [← it_succ', ← it_succ'] at e
    obtain ⟨h1, h2⟩ := (it_eq_iff h ht (show i + 1 < j + 1 by omega)).1 e
    have := Nat.le_of_dvd (by omega) h2
    omega
theorem tail_next {xs : List Int} (h : Good xs) {t : Nat} (ht : t < xs.length) : tail xs (ap xs t) = tail xs t - 1 := (tail_loop_next h ht).1
theorem loop_next {xs : List Int} (h : Good xs) {t : Nat} (ht : t < xs.length) : loop xs (ap xs t) = loop xs t := (tail_loop_next h ht).2
theorem tail_it_eq {xs : List Int} (h : Good xs) {t : Nat} (ht : t < xs.length) (j : Nat) : tail xs (it xs j t) = tail xs t - j := by
  induction j with
  | zero => rfl
  | succ j ih => show tail xs (ap xs (it xs j t)) = _; rw [tail_next h (h.it_lt ht j), ih]; omega
theorem loop_it_eq {xs : List Int} (h : Good xs) {t : Nat} (ht : t < xs.length) (j : Nat) : loop xs (it xs j t) = loop xs t := by
  induction j with
  | zero => rfl
  | succ j ih => show loop xs (ap xs (it xs j t)) = _; rw [loop_next h (h.it_lt ht j), ih]
theorem tail_zero_iff {xs : List Int} (h : Good xs) {t : Nat} (ht : t < xs.length) : tail xs t = 0 ↔ ∃ p, 0 < p ∧ it xs p t = t := by
  constructor
  · intro e
    refine ⟨loop xs t, loop_pos h ht, ?_⟩
    have := it_round h ht (a := 0) (by omega)
    simpa [it] using this
  · rintro ⟨p, hp, e⟩
    have := (it_eq_iff h ht (show 0 < p by omega)).1 e.symm
    omega
theorem tail_le {xs : List Int} (h : Good xs) {t : Nat} (ht : t < xs.length) : tail xs t < xs.length := by
  have := tail_lt h ht
  have := rho_le h ht
  omega

/-! ### the least thing of a loop -/
/-- the least of some numbers -/
def minL : List Nat → Nat
  | [] => 0
  | [x] => x
  | x :: y :: r => min x (minL (y :: r))
theorem minL_mem : ∀ (l : List Nat), l ≠ [] → minL l ∈ l
  | [], h => absurd rfl h
  | [x], _ => by simp [minL]
  | x :: y :: r, _ => by
    have := minL_mem (y :: r) (by simp)
    simp only [minL]
    rcases Nat.le_total x (minL (y :: r)) with h | h
    · rw [Nat.min_eq_left h]; simp
    · rw [Nat.min_eq_right h]; exact List.mem_cons_of_mem _ this
theorem minL_le : ∀ (l : List Nat), ∀ x ∈ l, minL l ≤ x
  | [], x, h => by simp at h
  | [y], x, h => by simp at h; subst h; exact Nat.le_refl _
  | y :: z :: r, x, h => by
    simp only [minL]
    rcases List.mem_cons.1 h with rfl | h
    · exact Nat.min_le_left _ _
    · exact Nat.le_trans (Nat.min_le_right _ _) (minL_le (z :: r) x h)
theorem minL_eq {l : List Nat} {m : Nat} (hm : m ∈ l) (h : ∀ x ∈ l, m ≤ x) : minL l = m := by
  have h1 := h _ (minL_mem l (by intro e; subst e; simp at hm))
  have h2 := minL_le l m hm
  omega
theorem minL_congr {l r : List Nat} (hl : l ≠ []) (h : ∀ x, x ∈ l ↔ x ∈ r) : minL l = minL r :=
  (minL_eq ((h _).1 (minL_mem l hl)) (fun x hx => minL_le l x ((h x).2 hx))).symm

/-- the things of the loop, from the one to which the way comes first -/
def loopL (xs : List Int) (t : Nat) : List Nat := (way xs t).drop (tail xs t)
def loopOf (xs : List Int) (t : Nat) : Nat := minL (loopL xs t)
theorem loopL_len {xs : List Int} {t : Nat} : (loopL xs t).length = loop xs t := by simp [loopL, way, walk, loop]
theorem mem_loopL {xs : List Int} (h : Good xs) {t : Nat} (ht : t < xs.length) {x : Nat} : x ∈ loopL xs t ↔ ∃ a, tail xs t ≤ a ∧ it xs a t = x := by
  have hr := rho_eq h ht
  constructor
  · intro hx
    obtain ⟨i, hi, rfl⟩ := List.getElem_of_mem hx
    refine ⟨tail xs t + i, by omega, ?_⟩
    simp [loopL, way, walk]
  · rintro ⟨a, ha, rfl⟩
    rw [it_mod h ht ha]
    have m := Nat.mod_lt (a - tail xs t) (loop_pos h ht)
    generalize (a - tail xs t) % loop xs t = i at *
    have hi : i < (loopL xs t).length := by rw [loopL_len]; exact m
    have : (loopL xs t)[i] = it xs (tail xs t + i) t := by simp [loopL, way, walk]
    rw [← this]
    exact List.getElem_mem hi
theorem loopL_ne {xs : List Int} (h : Good xs) {t : Nat} (ht : t < xs.length) : loopL xs t ≠ [] := by
  intro e
  have := loop_pos h ht
  rw [← loopL_len, e] at this
  simp at this
theorem loopOf_next {xs : List Int} (h : Good xs) {t : Nat} (ht : t < xs.length) : loopOf xs (ap xs t) = loopOf xs t := by
  refine minL_congr (loopL_ne h (h.ap_lt ht)) (fun x => ?_)
  rw [mem_loopL h (h.ap_lt ht), mem_loopL h ht, tail_next h ht]
  constructor
  · rintro ⟨a, ha, e⟩
    exact ⟨a + 1, by omega, by rw [it_succ']; exact e⟩
  · rintro ⟨b, hb, e⟩
    have hl := loop_pos h ht
    refine ⟨b + loop xs t - 1, by omega, ?_⟩
    rw [← it_succ', show b + loop xs t - 1 + 1 = b + loop xs t by omega, it_round h ht hb, e]
theorem loopOf_it {xs : List Int} (h : Good xs) {t : Nat} (ht : t < xs.length) (j : Nat) : loopOf xs (it xs j t) = loopOf xs t := by
  induction j with
  | zero => rfl
  | succ j ih => show loopOf xs (ap xs (it xs j t)) = _; rw [loopOf_next h (h.it_lt ht j), ih]
theorem loopOf_mem {xs : List Int} (h : Good xs) {t : Nat} (ht : t < xs.length) : ∃ a, tail xs t ≤ a ∧ it xs a t = loopOf xs t := (mem_loopL h ht).1 (minL_mem _ (loopL_ne h ht))
theorem loopOf_lt {xs : List Int} (h : Good xs) {t : Nat} (ht : t < xs.length) : loopOf xs t < xs.length := by
  obtain ⟨a, _, e⟩ := loopOf_mem h ht
  rw [← e]
  exact h.it_lt ht a
theorem loopOf_tail {xs : List Int} (h : Good xs) {t : Nat} (ht : t < xs.length) : tail xs (loopOf xs t) = 0 := by
  obtain ⟨a, ha, e⟩ := loopOf_mem h ht
  rw [← e, tail_it_eq h ht]
  omega
theorem loopOf_self {xs : List Int} (h : Good xs) {t : Nat} (ht : t < xs.length) (e : loopOf xs t = t) : tail xs t = 0 := by
  have := loopOf_tail h ht
  rwa [e] at this
theorem loopOf_idem {xs : List Int} (h : Good xs) {t : Nat} (ht : t < xs.length) : loopOf xs (loopOf xs t) = loopOf xs t := by
  obtain ⟨a, ha, e⟩ := loopOf_mem h ht
  conv => lhs; rw [← e]
  exact loopOf_it h ht a

end Go.Proofs.Ytkbfcaaihellfaa

/- Words for slices of integers: what a slice reads as; what the call owns; append, make. -/
namespace Go.Proofs.Ytkbfcaaihellfaa
open Go.RowKit
set_option linter.unusedVariables false



/-- the slice at A reads as xs -/
def RdA (w : World) (A : Option Addr) (xs : List Int) : Prop := ∀ k, k < xs.length → ∃ ad, A = some ad ∧ w.cell? (ad.add k) = some (.int .i64 (nth xs k))
/-- the slice v is the call's own (from block B on) and holds xs -/
def Own (B : Nat) (w : World) (v : Value) (xs : List Int) : Prop := w.ownsRow B 3 1 v xs.length (xs.map (Value.int .i64))
/-- a new slice that holds xs is handed back; what was there stays -/
def RetI (w : World) (xs : List Int) (e : Ending) (w' : World) : Prop := ∃ A c, e = .returned (.slice A xs.length c) ∧ Own w.heap.size w' (.slice A xs.length c) xs ∧ Below w.heap.size w w'

theorem block_of_add (a : Addr) (n : Nat) : (a.add n).block = a.block := by unfold Addr.add; split <;> rfl
theorem lt_of_cell {w : World} {a : Addr} {v : Value} (h : w.cell? a = some v) : a.block < w.heap.size := block_lt_of_cell h

theorem RdA.below {w w' : World} {A : Option Addr} {xs : List Int} (h : RdA w A xs) (hb : Below w.heap.size w w') : RdA w' A xs := fun k hk => by
  obtain ⟨ad, e, hc⟩ := h k hk
  exact ⟨ad, e, (hb.cell (lt_of_cell hc)).trans hc⟩
theorem RdA.nil {w : World} {A : Option Addr} : RdA w A [] := fun k hk => absurd hk (by simp)
theorem RdA.drew {w : World} {A : Option Addr} {xs : List Int} (h : RdA w A xs) : RdA w.drew A xs := h
theorem RdA.at_ {w : World} {A : Option Addr} {xs : List Int} (h : RdA w A xs) {k : Nat} (hk : k < xs.length) : ∃ ad, A = some ad ∧ w.cell? (ad.add k) = some (.int .i64 (nth xs k)) := h k hk
theorem RdA.some_ {w : World} {A : Option Addr} {xs : List Int} (h : RdA w A xs) (hx : 0 < xs.length) : ∃ ad, A = some ad ∧ ∀ k, k < xs.length → w.cell? (ad.add k) = some (.int .i64 (nth xs k)) := by
  obtain ⟨ad, e, _⟩ := h 0 hx
  refine ⟨ad, e, fun k hk => ?_⟩
  obtain ⟨ad', e', hc⟩ := h k hk
  rw [e] at e'
  injection e' with e'
  subst e'
  exact hc

theorem Own.mono {B B' : Nat} {w : World} {v : Value} {xs : List Int} (h : Own B w v xs) (hB : B' ≤ B) : Own B' w v xs := by
  refine ⟨h.1, ?_⟩
  rcases h.2 with h2 | ⟨g, cap, cur, hv, hg, r⟩
  · exact .inl h2
  · exact .inr ⟨g, cap, cur, hv, Nat.le_trans hB hg, r⟩
theorem Own.kept {B : Nat} {w w' : World} {v : Value} {xs : List Int} {row : Option Nat} (h : Own B w v xs) (hg : w.grownBy w' row) (hne : v.ownBlock = none ∨ v.ownBlock ≠ row) : Own B w' v xs := World.ownsRow.kept h hg hne
theorem grown_of_below {w w' : World} (hb : Below w.heap.size w w') (row : Option Nat) : w.grownBy w' row := ⟨hb.os, hb.tape, hb.output, hb.size, fun k hk _ => hb.block k hk⟩
theorem Own.below {B : Nat} {w w' : World} {v : Value} {xs : List Int} (h : Own B w v xs) (hb : Below w.heap.size w w') : Own B w' v xs := by
  rcases hv : v.ownBlock with _ | g
  · exact h.kept (grown_of_below hb none) (.inl hv)
  · exact h.kept (grown_of_below hb none) (.inr (by rw [hv]; simp))
theorem Own.alloc {B : Nat} {w : World} {v : Value} {xs : List Int} (h : Own B w v xs) (o : Obj) : Own B (w.alloc o) v xs := h.below ((Below.refl _ _).alloc (Nat.le_refl _) o)
theorem Own.drew {B : Nat} {w : World} {v : Value} {xs : List Int} (h : Own B w v xs) : Own B w.drew v xs := h
theorem Own.lt {B : Nat} {w : World} {v : Value} {xs : List Int} (h : Own B w v xs) : ∀ k, v.ownBlock = some k → B ≤ k ∧ k < w.heap.size := World.ownsRow.lt h
theorem Own.nil (B : Nat) (w : World) : Own B w (.slice none 0 0) [] := World.ownsRow_nil _ _ _ _
theorem Own.new_ (w : World) (xs : List Int) (cs : Array Value) (hcs : cs = (xs.map (Value.int .i64)).toArray) (h : xs.length ≤ maxLen) : Own w.heap.size (w.alloc (.cells cs 3)) (.slice (some ⟨w.heap.size, 0, none⟩) xs.length xs.length) xs := by
  have := World.ownsRow_lit (base := w.heap.size) (e := 3) (size := 1) w cs xs.length (Nat.le_refl _) h (by rw [hcs]; simp)
  unfold Own
  rw [hcs] at this ⊢
  simpa using this

/-- the shape of a slice that is owned -/
theorem Own.form {B : Nat} {w : World} {v : Value} {xs : List Int} (h : Own B w v xs) : ∃ A c, v = .slice A xs.length c ∧ RdA w A xs := by
  rcases h.2 with ⟨rfl, h0⟩ | ⟨g, cap, cur, rfl, hg, hh, r⟩
  · refine ⟨none, 0, by rw [h0], fun k hk => by omega⟩
  · refine ⟨some ⟨g, 0, none⟩, cap, rfl, fun k hk => ⟨_, rfl, ?_⟩⟩
    have := World.ownsRow.cells h (g := g) rfl k (.int .i64 (nth xs k)) (by rw [List.getElem?_map, List.getElem?_eq_getElem hk, nth_lt hk]; rfl)
    exact this
theorem Own.rd {B : Nat} {w : World} {A : Option Addr} {n c : Nat} {xs : List Int} (h : Own B w (.slice A n c) xs) : RdA w A xs := by
  obtain ⟨A', c', e, hr⟩ := h.form
  injection e with e1 e2 e3
  subst e1
  exact hr
theorem Own.len {B : Nat} {w : World} {A : Option Addr} {n c : Nat} {xs : List Int} (h : Own B w (.slice A n c) xs) : n = xs.length := by
  obtain ⟨A', c', e, hr⟩ := h.form
  injection e
theorem Own.pos {B : Nat} {w : World} {v : Value} {xs : List Int} (h : Own B w v xs) (hx : 0 < xs.length) : ∃ g c, v = .slice (some ⟨g, 0, none⟩) xs.length c ∧ B ≤ g ∧ g < w.heap.size := by
  rcases h.2 with ⟨rfl, h0⟩ | ⟨g, cap, cur, rfl, hg, hh, r⟩
  · omega
  · exact ⟨g, cap, rfl, hg, lt_of_block hh⟩
theorem add_g (g k : Nat) : (⟨g, 0, none⟩ : Addr).add k = ⟨g, k, none⟩ := by unfold Addr.add; split <;> simp_all
theorem Own.cell {B g n c : Nat} {w : World} {xs : List Int} (h : Own B w (.slice (some ⟨g, 0, none⟩) n c) xs) {k : Nat} (hk : k < xs.length) : w.cell? ⟨g, k, none⟩ = some (.int .i64 (nth xs k)) := by
  obtain ⟨ad, e, hc⟩ := h.rd k hk
  injection e with e
  subst e
  rwa [add_g] at hc
theorem Own.frozen {B g n c : Nat} {w : World} {xs : List Int} (h : Own B w (.slice (some ⟨g, 0, none⟩) n c) xs) (k : Nat) : w.frozen? ⟨g, k, none⟩ = false := by
  obtain rfl := h.len
  exact World.ownsRow.frozenAt h k
theorem Own.store {B g n c : Nat} {w : World} {xs : List Int} (h : Own B w (.slice (some ⟨g, 0, none⟩) n c) xs) (k : Nat) (u : Int) :
    Own B (w.setCell ⟨g, k, none⟩ (.int .i64 u)) (.slice (some ⟨g, 0, none⟩) n c) (xs.set k u) := by
  obtain rfl := h.len
  have := (World.ownsRow.stored h k (.int .i64 u)).1
  unfold Own
  rw [List.map_set, List.length_set]
  exact this
theorem Own.ge {B g n c : Nat} {w : World} {xs : List Int} (h : Own B w (.slice (some ⟨g, 0, none⟩) n c) xs) : B ≤ g ∧ g < w.heap.size := h.lt g rfl

theorem cell_one1 (w : World) (v : Value) (t : TypeId) : (w.alloc (.cells #[v] t)).cell? ⟨w.heap.size, 0, none⟩ = some v := by
  rw [World.cell?_alloc_at _ _ _ _ rfl]; rfl
theorem info_int : (Try.prog.info? 3).map (fun i => (i.zero, i.size, i.bytes)) = some (some (.int .i64 0), 1, 8) := by kernel_rfl

/-- append of one number -/
theorem wpList_app1 {ops : Array Oper} {rest : List Oper} {o : Oper} {a : Act} {Q : Exit → Act → World → Prop} (w : World) (hgd : o.guard = none) (s x : Operand)
    (ho : o.op = .call { callee := .builtin .append, args := #[s, x], argTypes := #[22, 22] })
    (base : Nat) (v : Value) (xs : List Int) (hs : a.eval s = v) (hown : Own base w v xs) (g : Nat) (z : Int) (hx : a.eval x = .slice (some ⟨g, 0, none⟩) 1 1)
    (hc : w.cell? ⟨g, 0, none⟩ = some (.int .i64 z)) (hlen : xs.length ≤ 1000000000000) (hbase : base ≤ w.heap.size)
    (hK : ∀ A c w', Own base w' (.slice A (xs.length + 1) c) (xs ++ [z]) → Below base w w' → wpList Try.prog ops Q rest (a.put o.dst (.slice A (xs.length + 1) c)) w') : wpList Try.prog ops Q (o :: rest) a w := by
  obtain ⟨i0, hi, hz0, hz1, hz2⟩ := info_parts info_int
  refine wpList_append_own w hgd s x 22 ho base 3 i0 (.int .i64 0) 1 8 Try.underlying22 hi hz0 hz1 hz2 rfl (by decide) v xs.length (xs.map (Value.int .i64)) hs hown ⟨g, 0, none⟩ 1 1 [.int .i64 z] hx rfl ?_ ?_ ?_ ?_ hbase ?_
  · intro j u hj
    match j, hj with
    | 0, hj => simp at hj; subst hj; simpa [Addr.add] using hc
  · intro u hu; simp at hu; subst hu; rfl
  · unfold maxLen; omega
  · omega
  · intro v' w' hown' hgrow _
    have ho' : Own base w' v' (xs ++ [z]) := by unfold Own; simpa using hown'
    obtain ⟨A, c, e, _⟩ := ho'.form
    rw [e] at ho' ⊢
    rw [List.length_append] at ho' ⊢
    exact hK A c w' ho' ((Below.refl base w).grown hgrow hbase (fun k hk => (hown.lt k hk).1))

/-- make of n zeros -/
theorem wpList_mk {ops : Array Oper} {rest : List Oper} {o : Oper} {a : Act} {Q : Exit → Act → World → Prop} (w : World) (hg : o.guard = none) (l c : Operand) (hop : o.op = Op.makeSlice 22 l c)
    (N : Int) (n : Nat) (hl : a.eval l = .int .i64 N) (hc : a.eval c = .int .i64 N) (hN : N = (n : Int)) (hn : n ≤ 1000000000000)
    (hK : ∀ w', Own w.heap.size w' (.slice (some ⟨w.heap.size, 0, none⟩) n n) (List.replicate n 0) → Below w.heap.size w w' → wpList Try.prog ops Q rest (a.put o.dst (.slice (some ⟨w.heap.size, 0, none⟩) n n)) w') :
    wpList Try.prog ops Q (o :: rest) a w := by
  obtain ⟨i0, hi, hz0, hz1, hz2⟩ := info_parts info_int
  refine wpList_make_full w hg l c 22 hop w.heap.size 3 i0 (.int .i64 0) 1 Try.underlying22 hi hz0 hz1 .i64 .i64 N N n hl hc hN hN (by rw [hz2]; omega) (by unfold maxLen; omega) (Nat.le_refl _) ?_
  intro w' hown hgrow
  refine hK w' ?_ ((Below.refl _ w).grown hgrow (Nat.le_refl _) (fun k hk => by cases hk))
  unfold Own
  simp only [Value.cells, toList_madeCells_one, Nat.mul_one] at hown
  simpa using hown

end Go.Proofs.Ytkbfcaaihellfaa

/- Contracts of the laws' own helpers over slices of integers: toIntS, eqIntS, markIntS, heldIntS. -/
namespace Go.Proofs.Ytkbfcaaihellfaa
open Go.RowKit
set_option linter.unusedVariables false

def fillT (xs : List Int) (k : Nat) : List Int := xs.take k ++ List.replicate (xs.length - k) 0
theorem fillT_len (xs : List Int) (k : Nat) (h : k ≤ xs.length) : (fillT xs k).length = xs.length := by simp [fillT]; omega
theorem fillT_set (xs : List Int) (k : Nat) (h : k < xs.length) : (fillT xs k).set k (nth xs k) = fillT xs (k + 1) := by
  unfold fillT
  rw [List.set_append_right _ _ (by simp; omega), take_nth h]
  have e : xs.length - k = (xs.length - (k + 1)) + 1 := by omega
  rw [e, List.replicate_succ]
  simp [show min k xs.length = k by omega]

set_option maxHeartbeats 400000 in
theorem toIntS_c (A : Option Addr) (c : Nat) (xs : List Int) (w : World) (hR : RdA w A xs) (hn : xs.length ≤ 1048576) :
    Calls Try.prog 10 #[.slice A xs.length c] w (RetI w xs) := by
  go_enter Try.func10, Try.ntmps10
  go_wp2_with (at_make; refine wpList_mk _ rfl _ _ rfl _ xs.length rfl rfl rfl (by omega) ?_; intro w1 hown hb)
  go_loopw [4] (fun i wr => ∃ k : Nat, k ≤ xs.length ∧ i = .int .i64 k ∧ Own w.heap.size wr (.slice (some ⟨w.heap.size, 0, none⟩) xs.length xs.length) (fillT xs k) ∧ Below w.heap.size w wr) (fun i _ => xs.length - (intOf i).toNat)
  case atStart => exact ⟨0, Nat.zero_le _, rfl, by simpa [fillT] using hown, hb⟩
  case round =>
    clear hown hb
    obtain ⟨k, hk, rfl, hown, hb⟩ := hrel
    by_cases hlt : k < xs.length
    · obtain ⟨ad, rfl, hc⟩ := (hR.below hb) k hlt
      have hc2 := hown.cell (k := k) (by rw [fillT_len _ _ hk]; exact hlt)
      have hf2 := hown.frozen k
      have hs := hown.store k (nth xs k)
      rw [fillT_set xs k hlt] at hs
      have hbs := hb.setCell (p := ⟨w.heap.size, k, none⟩) (Nat.le_refl _) (.int .i64 (nth xs k))
      have HS := hid (And.intro hs hbs)
      clear hs hbs hown hb hR
      go_wp2
      go_roundw
      case rel => exact ⟨k + 1, by omega, by go_num, HS.out.1, HS.out.2⟩
      case measure => simp [intOf]; omega
    · obtain rfl : k = xs.length := by omega
      have HS := hid (And.intro hown hb)
      clear hown hb
      go_wp2
      go_ret
      refine ⟨_, _, rfl, ?_, HS.out.2⟩
      have := HS.out.1
      simpa [fillT] using this

theorem eqlen {xs ys : List Int} (hl : xs.length = ys.length) {k : Nat} (hk : k < xs.length) (h : xs.take k = ys.take k) (he : nth xs k = nth ys k) : xs.take (k + 1) = ys.take (k + 1) := by
  rw [take_nth hk, take_nth (by omega), h, he]
theorem neq_nth {xs ys : List Int} {k : Nat} (he : ¬ nth xs k = nth ys k) : ¬ xs = ys := fun e => he (by rw [e])

set_option maxHeartbeats 400000 in
theorem eqIntS_c (A B : Option Addr) (c d : Nat) (xs ys : List Int) (w : World) (hR : RdA w A xs) (hS : RdA w B ys) (hn : xs.length ≤ 1048577) (hm : ys.length ≤ 1048577) :
    Calls Try.prog 13 #[.slice A xs.length c, .slice B ys.length d] w fun e w' => e = .returned (.bool (decide (xs = ys))) ∧ Below w.heap.size w w' := by
  by_cases hl : xs.length = ys.length
  · have hl' : ((xs.length : Int) == (ys.length : Int)) = true := by simp [hl]
    have HL := hid hl
    have e1 : ys.length = xs.length := hl.symm
    rw [e1] at hl' hm ⊢
    clear e1 hl
    go_enter Try.func13, Try.ntmps13
    go_wp2
    go_loopw [5] (fun i wr => ∃ k : Nat, k ≤ xs.length ∧ i = .int .i64 k ∧ xs.take k = ys.take k ∧ Below w.heap.size w wr) (fun i _ => xs.length - (intOf i).toNat)
    case atStart => exact ⟨0, Nat.zero_le _, rfl, rfl, Below.refl _ _⟩
    case round =>
      obtain ⟨k, hk, rfl, ht, hb⟩ := hrel
      have HT := hid ht
      clear ht
      by_cases hlt : k < xs.length
      · obtain ⟨ad, rfl, hc⟩ := (hR.below hb) k hlt
        obtain ⟨bd, rfl, hc2⟩ := (hS.below hb) k (by have := HL.out; omega)
        clear hR hS
        have HB := hid hb
        clear hb
        by_cases he : nth xs k = nth ys k
        · have HE := hid (eqlen HL.out hlt HT.out he)
          rw [he] at hc
          go_wp2
          go_region
          all_goals go_wp2
          all_goals go_roundw
          case rel => exact ⟨k + 1, by omega, by go_num, HE.out, HB.out.drew⟩
          case measure => simp [intOf]; omega
        · have hne : (nth xs k == nth ys k) = false := by simpa using he
          have HE := hid (neq_nth he)
          clear he
          go_wp2
          go_region
          all_goals go_wp2
          all_goals go_ret
          all_goals exact ⟨ret_bool (by simp [HE.out]), HB.out.drew⟩
      · obtain rfl : k = xs.length := by omega
        have HB := hid hb
        clear hb
        go_wp2
        go_ret
        refine ⟨ret_bool ?_, HB.out⟩
        have := HT.out
        rw [List.take_length, HL.out, List.take_length] at this
        simp [this]
  · have hl' : ((xs.length : Int) == (ys.length : Int)) = false := by simp; omega
    have HL := hid hl
    clear hl
    go_enter Try.func13, Try.ntmps13
    go_wp2
    go_ret
    exact ⟨ret_bool (by simp; intro e; exact HL.out (by rw [e])), Below.refl _ _⟩

/-! ### markIntS, heldIntS -/
def upFrom (k0 : Int) (n : Nat) : List Int := (List.range n).map fun (i : Nat) => k0 + (i : Int)
theorem upFrom_len (k0 : Int) (n : Nat) : (upFrom k0 n).length = n := by simp [upFrom]
theorem upFrom_nth {k0 : Int} {n k : Nat} (h : k < n) : nth (upFrom k0 n) k = k0 + k := by simp [nth, upFrom, h]
def markT (k0 : Int) (xs : List Int) (k : Nat) : List Int := upFrom k0 k ++ xs.drop k
theorem markT_len {k0 : Int} {xs : List Int} {k : Nat} (h : k ≤ xs.length) : (markT k0 xs k).length = xs.length := by simp [markT, upFrom_len]; omega
theorem markT_set {k0 : Int} {xs : List Int} {k : Nat} (h : k < xs.length) : (markT k0 xs k).set k (k0 + k) = markT k0 xs (k + 1) := by
  unfold markT
  rw [List.set_append_right _ _ (by simp [upFrom_len]), upFrom_len, Nat.sub_self]
  rw [List.drop_eq_getElem_cons h, List.set_cons_zero]
  simp [upFrom, List.range_succ]

theorem grown_store {w wr : World} {g : Nat} (h : w.grownBy wr (some g)) (i : Nat) (u : Value) : w.grownBy (wr.setCell ⟨g, i, none⟩ u) (some g) :=
  ⟨h.os, h.tape, h.output, by simpa [World.setCell] using h.size, fun k hk hne => (Below.heap_setCell wr ⟨g, i, none⟩ u k (fun e => hne (by simp [e]))).trans (h.block k hk hne)⟩

theorem markIntS_c (B g c : Nat) (xs : List Int) (k0 : Int) (w : World) (hown : Own B w (.slice (some ⟨g, 0, none⟩) xs.length c) xs) (hn : xs.length ≤ 1048577) (h0 : 0 ≤ k0) (h1 : k0 ≤ 1000000000) :
    Calls Try.prog 14 #[.slice (some ⟨g, 0, none⟩) xs.length c, .int .i64 k0] w fun e w' => e = .returned (.int .i64 (k0 + xs.length)) ∧
      Own B w' (.slice (some ⟨g, 0, none⟩) xs.length c) (upFrom k0 xs.length) ∧ w.grownBy w' (some g) ∧ w'.heap.size = w.heap.size := by
  go_enter Try.func14, Try.ntmps14
  go_wp2
  go_loopw [1, 5] (fun s i wr => ∃ k : Nat, k ≤ xs.length ∧ i = .int .i64 k ∧ s = .int .i64 (k0 + k) ∧ Own B wr (.slice (some ⟨g, 0, none⟩) xs.length c) (markT k0 xs k) ∧ w.grownBy wr (some g) ∧ wr.heap.size = w.heap.size) (fun _ i _ => xs.length - (intOf i).toNat)
  case atStart => exact ⟨0, Nat.zero_le _, rfl, by simp, by simpa [markT, upFrom] using hown, World.grownBy.refl _ _, rfl⟩
  case round =>
    clear hown
    obtain ⟨k, hk, rfl, rfl, hown, hb, hz⟩ := hrel
    have HZ := hid hz
    clear hz
    by_cases hlt : k < xs.length
    · have hc2 := hown.cell (k := k) (by rw [markT_len hk]; exact hlt)
      have hf2 := hown.frozen k
      have hs := hown.store k (k0 + k)
      rw [markT_set hlt] at hs
      have hbs := grown_store hb k (.int .i64 (k0 + k))
      have HS := hid (And.intro hs hbs)
      clear hs hbs hown hb
      go_wp2
      go_roundw
      case rel => exact ⟨k + 1, by omega, by go_num, by go_num, HS.out.1, HS.out.2, by simpa [World.setCell] using HZ.out⟩
      case measure => simp [intOf]; omega
    · obtain rfl : k = xs.length := by omega
      have HS := hid (And.intro hown hb)
      clear hown hb
      go_wp2
      go_ret
      refine ⟨rfl, ?_, HS.out.2, HZ.out⟩
      have := HS.out.1
      simpa [markT] using this

theorem markIntS_nil (A : Option Addr) (c : Nat) (k0 : Int) (w : World) :
    Calls Try.prog 14 #[.slice A 0 c, .int .i64 k0] w fun e w' => e = .returned (.int .i64 k0) ∧ w = w' := by
  go_enter Try.func14, Try.ntmps14
  go_wp2
  refine wp_loop_rounds 1 ?_
  rw [rounds_succ]
  go_wp2
  go_ret
  exact ⟨rfl, rfl⟩

theorem heldIntS_c (A : Option Addr) (c n : Nat) (k0 : Int) (w : World) (hR : RdA w A (upFrom k0 n)) (hn : n ≤ 1048577) (h0 : 0 ≤ k0) (h1 : k0 ≤ 1000000000) :
    Calls Try.prog 44 #[.slice A n c, .int .i64 k0] w fun e w' => e = .returned (.int .i64 (k0 + n)) ∧ w = w' := by
  go_enter Try.func44, Try.ntmps44
  go_wp2
  go_loop [1, 5] (fun s i => ∃ k : Nat, k ≤ n ∧ i = .int .i64 k ∧ s = .int .i64 (k0 + k)) (fun _ i => n - (intOf i).toNat)
  case atStart => exact ⟨0, Nat.zero_le _, rfl, by simp⟩
  case round =>
    obtain ⟨k, hk, rfl, rfl⟩ := hrel
    by_cases hlt : k < n
    · obtain ⟨ad, rfl, hc⟩ := hR k (by rw [upFrom_len]; exact hlt)
      rw [upFrom_nth hlt] at hc
      clear hR
      go_wp2
      go_round
      case rel => exact ⟨k + 1, by omega, by go_num, by go_num⟩
      case measure => simp [intOf]; omega
    · obtain rfl : k = n := by omega
      clear hR
      go_wp2
      go_ret
      exact ⟨rfl, rfl⟩

/-- append of a slice that reads as ys -/
theorem wpList_appS {ops : Array Oper} {rest : List Oper} {o : Oper} {a : Act} {Q : Exit → Act → World → Prop} (w : World) (hgd : o.guard = none) (s x : Operand)
    (ho : o.op = .call { callee := .builtin .append, args := #[s, x], argTypes := #[22, 22] })
    (base : Nat) (v : Value) (xs : List Int) (hs : a.eval s = v) (hown : Own base w v xs) (ad : Addr) (ys : List Int) (c : Nat) (hx : a.eval x = .slice (some ad) ys.length c)
    (hr : ∀ k, k < ys.length → w.cell? (ad.add k) = some (.int .i64 (nth ys k))) (hlen : xs.length + ys.length ≤ 1000000000000) (hbase : base ≤ w.heap.size)
    (hK : ∀ A c w', Own base w' (.slice A (xs.length + ys.length) c) (xs ++ ys) → Below base w w' → wpList Try.prog ops Q rest (a.put o.dst (.slice A (xs.length + ys.length) c)) w') : wpList Try.prog ops Q (o :: rest) a w := by
  obtain ⟨i0, hi, hz0, hz1, hz2⟩ := info_parts info_int
  refine wpList_append_own w hgd s x 22 ho base 3 i0 (.int .i64 0) 1 8 Try.underlying22 hi hz0 hz1 hz2 rfl (by decide) v xs.length (xs.map (Value.int .i64)) hs hown ad ys.length c (ys.map (Value.int .i64)) hx (by simp) ?_ ?_ ?_ ?_ hbase ?_
  · intro j u hj
    rw [List.getElem?_map] at hj
    by_cases hjl : j < ys.length
    · rw [List.getElem?_eq_getElem hjl] at hj
      simp only [Option.map_some, Option.some.injEq] at hj
      rw [hr j hjl, nth_lt hjl, hj]
    · rw [List.getElem?_eq_none (by omega)] at hj
      simp at hj
  · intro u hu
    obtain ⟨z, _, rfl⟩ := List.mem_map.1 hu
    rfl
  · unfold maxLen; omega
  · omega
  · intro v' w' hown' hgrow _
    have ho' : Own base w' v' (xs ++ ys) := by unfold Own; simpa using hown'
    obtain ⟨A, c, e, _⟩ := ho'.form
    rw [e] at ho' ⊢
    rw [List.length_append] at ho' ⊢
    exact hK A c w' ho' ((Below.refl base w).grown hgrow hbase (fun k hk => (hown.lt k hk).1))

theorem wpList_appE {ops : Array Oper} {rest : List Oper} {o : Oper} {a : Act} {Q : Exit → Act → World → Prop} (w : World) (hgd : o.guard = none) (s x : Operand)
    (ho : o.op = .call { callee := .builtin .append, args := #[s, x], argTypes := #[22, 22] })
    (base : Nat) (v : Value) (hs : a.eval s = v) (hown : Own base w v []) (ad : Addr) (ys : List Int) (c : Nat) (hx : a.eval x = .slice (some ad) ys.length c)
    (hr : ∀ k, k < ys.length → w.cell? (ad.add k) = some (.int .i64 (nth ys k))) (hlen : ys.length ≤ 1000000000) (hbase : base ≤ w.heap.size)
    (hK : ∀ A c w', Own base w' (.slice A ys.length c) ys → Below base w w' → wpList Try.prog ops Q rest (a.put o.dst (.slice A ys.length c)) w') : wpList Try.prog ops Q (o :: rest) a w := by
  refine wpList_appS w hgd s x ho base v [] hs hown ad ys c hx hr (by simp; omega) hbase ?_
  rw [show ([] : List Int).length + ys.length = ys.length by simp]
  exact hK

end Go.Proofs.Ytkbfcaaihellfaa

/- Contracts: MapOk of the program (and of the reference, where the seat has it); alive. -/
namespace Go.Proofs.Ytkbfcaaihellfaa
open Go.RowKit
set_option linter.unusedVariables false


theorem has_t (A : Option Addr) (n c : Nat) (z : Int) (w : World) (h : 0 ≤ z ∧ z < n) :
    Calls Try.prog 70 #[.slice A n c, .int .i64 z] w fun e w' => e = .returned (.bool true) ∧ w = w' := by
  obtain ⟨h1, h2⟩ := h
  go_enter Try.func70, Try.ntmps70
  go_wp2_with fail
  all_goals go_ret
  all_goals exact ⟨ret_bool (by first | rfl | (simp; omega)), rfl⟩
theorem has_f (A : Option Addr) (n c : Nat) (z : Int) (w : World) (h : ¬ (0 ≤ z ∧ z < n)) :
    Calls Try.prog 70 #[.slice A n c, .int .i64 z] w fun e w' => e = .returned (.bool false) ∧ w = w' := by
  go_enter Try.func70, Try.ntmps70
  go_wp2_with fail
  all_goals go_ret
  all_goals exact ⟨ret_bool (by first | rfl | (simp; omega)), rfl⟩

theorem ok_c (A : Option Addr) (c : Nat) (xs : List Int) (w : World) (hR : RdA w A xs) (hn : xs.length ≤ 1048577) :
    Calls Try.prog 56 #[.slice A xs.length c] w fun e w' => e = .returned (.bool (mapOkB xs)) ∧ w = w' := by
  by_cases hl : 1 ≤ xs.length ∧ xs.length ≤ 7
  · obtain ⟨hl1, hl2⟩ := hl
    go_enter Try.func56, Try.ntmps56
    go_wp2_with fail
    go_loop [15] (fun i => ∃ k : Nat, k ≤ xs.length ∧ i = .int .i64 k ∧ Hid (∀ j, j < k → 0 ≤ nth xs j ∧ nth xs j < xs.length)) (fun i => xs.length - (intOf i).toNat)
    case atStart => exact ⟨0, Nat.zero_le _, rfl, hid (fun j hj => by omega)⟩
    case round =>
      obtain ⟨k, hk, rfl, hall⟩ := hrel
      by_cases hlt : k < xs.length
      · obtain ⟨ad, rfl, hc⟩ := hR k hlt
        clear hR
        by_cases hx : 0 ≤ nth xs k ∧ nth xs k < xs.length
        · go_wp2_with fail
          refine (has_t _ _ _ _ _ hx).mono ?_; rintro e w' ⟨rfl, rfl⟩
          have HX := hid hx
          clear hx
          go_wp2_with fail
          go_round
          case rel => exact ⟨k + 1, by omega, by go_num, hid (fun j hj => by rcases Nat.lt_succ_iff_lt_or_eq.1 hj with h | rfl; exact hall.out j h; exact HX.out)⟩
          case measure => simp [intOf]; omega
        · have HN := hid (mapOkB_no hlt hx)
          go_wp2_with fail
          refine (has_f _ _ _ _ _ hx).mono ?_; rintro e w' ⟨rfl, rfl⟩
          go_wp2_with fail
          go_ret
          exact ⟨ret_bool HN.out.symm, rfl⟩
      · obtain rfl : k = xs.length := by omega
        have HN := hid (mapOkB_all hall.out)
        clear hR
        go_wp2_with fail
        go_ret
        exact ⟨ret_bool (by rw [HN.out]; simp; omega), rfl⟩
  · have HN := hid (mapOkB_len hl)
    by_cases h1 : xs.length < 1
    · clear hl hR
      go_enter Try.func56, Try.ntmps56
      go_wp2_with fail
      go_ret
      exact ⟨ret_bool HN.out.symm, rfl⟩
    · have h7 : 7 < xs.length := by omega
      have h1' : decide ((xs.length : Int) < 1) = false := by simp; omega
      clear hl hR h1
      go_enter Try.func56, Try.ntmps56
      go_wp2_with fail
      go_ret
      exact ⟨ret_bool HN.out.symm, rfl⟩

theorem iMapOk_c (A : Option Addr) (c : Nat) (xs : List Int) (w : World) (hR : RdA w A xs) (hn : xs.length ≤ 1048577) :
    Calls Try.prog 40 #[.slice A xs.length c] w fun e w' => e = .returned (.bool (mapOkB xs)) ∧ w = w' := by
  have h := ok_c A c xs w hR hn
  clear hR
  go_enter Try.func40, Try.ntmps40
  go_wp2_with fail
  refine h.mono ?_; rintro e w' ⟨rfl, rfl⟩
  go_wp2_with fail
  go_ret
  exact ⟨rfl, rfl⟩

theorem two_new (w : World) (x y : Int) : Own w.heap.size (w.alloc (.cells #[.int .i64 x, .int .i64 y] 3)) (.slice (some ⟨w.heap.size, 0, none⟩) 2 2) [x, y] :=
  Own.new_ w [x, y] #[.int .i64 x, .int .i64 y] rfl (by show 2 ≤ maxLen; decide)

theorem alive_c (w : World) :
    Calls Try.prog 21 #[] w fun e w' => e = .returned (.bool true) ∧ Below w.heap.size w w' := by
  have h1 := iMapOk_c (some ⟨w.heap.size, 0, none⟩) 2 [1, 0] _ (two_new w 1 0).rd (by decide)
  have h2 := iMapOk_c (some ⟨(w.alloc (.cells #[.int .i64 1, .int .i64 0] 3)).heap.size, 0, none⟩) 2 [2, 0] _ (two_new (w.alloc (.cells #[.int .i64 1, .int .i64 0] 3)) 2 0).rd (by decide)
  rw [show mapOkB [1, 0] = true by decide] at h1
  rw [show mapOkB [2, 0] = false by decide] at h2
  simp only [World.size_alloc] at h2
  have H1 := hid h1
  have H2 := hid h2
  clear h1 h2
  go_enter Try.func21, Try.ntmps21
  go_wp2_with fail
  refine H1.out.mono ?_; rintro e w' ⟨rfl, rfl⟩
  go_wp2_with fail
  refine H2.out.mono ?_; rintro e w' ⟨rfl, rfl⟩
  go_wp2_with fail
  go_ret
  exact ⟨rfl, ((Below.refl _ _).alloc (Nat.le_refl _) _).alloc (by simp) _⟩

end Go.Proofs.Ytkbfcaaihellfaa

/- Plain law: maps behind each other, turned maps. No program in sight. -/
namespace Go.Proofs.Ytkbfcaaihellfaa
set_option linter.unusedVariables false

/-- numbers as Go has them -/
def ints (l : List Nat) : List Int := l.map Int.ofNat
theorem ints_len (l : List Nat) : (ints l).length = l.length := by simp [ints]
theorem nth_ints {l : List Nat} {k : Nat} (h : k < l.length) : nth (ints l) k = (l[k] : Int) := by simp [nth, ints, h]
theorem ints_append (l r : List Nat) : ints (l ++ r) = ints l ++ ints r := by simp [ints]
theorem ints_inj {l r : List Nat} (h : ints l = ints r) : l = r := by
  unfold ints at h
  exact (List.map_inj_right (fun a b e => by injection e)).1 h

/-- the map that does what F tells -/
def mk (n : Nat) (F : Nat → Nat) : List Int := ints ((List.range n).map F)
theorem mk_len (n : Nat) (F : Nat → Nat) : (mk n F).length = n := by simp [mk, ints_len]
theorem nth_mk {n : Nat} {F : Nat → Nat} {k : Nat} (h : k < n) : nth (mk n F) k = (F k : Int) := by
  rw [mk, nth_ints (by simpa using h)]
  simp
theorem ap_mk {n : Nat} {F : Nat → Nat} {k : Nat} (h : k < n) : ap (mk n F) k = F k := by simp [ap, nth_mk h]
theorem mk_succ (n : Nat) (F : Nat → Nat) : mk (n + 1) F = mk n F ++ [(F n : Int)] := by simp [mk, ints, List.range_succ]
theorem good_mk {n : Nat} {F : Nat → Nat} (hn : 1 ≤ n ∧ n ≤ 7) (hF : ∀ k, k < n → F k < n) : Good (mk n F) := by
  refine ⟨by rw [mk_len]; exact hn, fun k hk => ?_⟩
  rw [mk_len] at hk ⊢
  rw [nth_mk hk]
  have := hF k hk
  omega
theorem ext_nth {xs ys : List Int} (hl : xs.length = ys.length) (h : ∀ k, k < xs.length → nth xs k = nth ys k) : xs = ys := by
  apply List.ext_getElem hl
  intro k h1 h2
  have := h k h1
  rwa [nth_lt h1, nth_lt h2] at this
theorem eq_mk {xs : List Int} (h : Good xs) : xs = mk xs.length (ap xs) := by
  refine ext_nth (by rw [mk_len]) (fun k hk => ?_)
  rw [nth_mk hk, h.nth_ap hk]
theorem mk_congr {n : Nat} {F G : Nat → Nat} (h : ∀ k, k < n → F k = G k) : mk n F = mk n G := by
  refine ext_nth (by rw [mk_len, mk_len]) (fun k hk => ?_)
  rw [mk_len] at hk
  rw [nth_mk hk, nth_mk hk, h k hk]
theorem mk_eq_iff {n : Nat} {F G : Nat → Nat} : mk n F = mk n G ↔ ∀ k, k < n → F k = G k := by
  refine ⟨fun h k hk => ?_, mk_congr⟩
  have : nth (mk n F) k = nth (mk n G) k := by rw [h]
  rw [nth_mk hk, nth_mk hk] at this
  omega
theorem good_ext {xs ys : List Int} (h : Good xs) (h' : Good ys) (hl : xs.length = ys.length) (he : ∀ k, k < xs.length → ap xs k = ap ys k) : xs = ys := by
  refine ext_nth hl (fun k hk => ?_)
  rw [h.nth_ap hk, h'.nth_ap (by omega), he k hk]

/-! ### SameOf, BehindOf -/
def sameL (n : Int) : List Int := if 1 ≤ n ∧ n ≤ 7 then mk n.toNat (fun k => k) else []
def behindL (f g : List Int) : List Int := if mapOkB f = true ∧ mapOkB g = true ∧ f.length = g.length then mk f.length (fun k => ap g (ap f k)) else []
theorem behindL_good {f g : List Int} (hf : Good f) (hg : Good g) (hl : f.length = g.length) : behindL f g = mk f.length (fun k => ap g (ap f k)) := by
  unfold behindL
  rw [if_pos ⟨ok_of hf, ok_of hg, hl⟩]
theorem behindL_no {f g : List Int} (h : ¬ (mapOkB f = true ∧ mapOkB g = true ∧ f.length = g.length)) : behindL f g = [] := by
  unfold behindL
  rw [if_neg h]
theorem good_behind {f g : List Int} (hf : Good f) (hg : Good g) (hl : f.length = g.length) : Good (behindL f g) ∧ (behindL f g).length = f.length := by
  rw [behindL_good hf hg hl]
  refine ⟨good_mk hf.1 (fun k hk => ?_), mk_len _ _⟩
  rw [hl]
  exact hg.ap_lt (by rw [← hl]; exact hf.ap_lt hk)
theorem behindL_len (f g : List Int) (h : f.length ≤ 1048577) : (behindL f g).length ≤ 1048577 := by
  unfold behindL
  split
  · rw [mk_len]; exact h
  · simp

/-! ### maps that can be turned round -/
/-- just one thing is led to each -/
def Inj (f : List Int) : Prop := ∀ i j, i < f.length → j < f.length → ap f i = ap f j → i = j
def injB (f : List Int) : Bool := (List.range f.length).all fun i => (List.range f.length).all fun j => !(nth f i == nth f j) || i == j
theorem injB_iff {f : List Int} (hf : Good f) : injB f = true ↔ Inj f := by
  simp only [injB, List.all_eq_true, List.mem_range, Bool.or_eq_true, Bool.not_eq_true', beq_eq_false_iff_ne, ne_eq, beq_iff_eq, Inj]
  constructor
  · intro h i j hi hj e
    rcases h i hi j hj with h1 | h1
    · exact absurd (by rw [hf.nth_ap hi, hf.nth_ap hj, e]) h1
    · exact h1
  · intro h i hi j hj
    by_cases e : nth f i = nth f j
    · right
      refine h i j hi hj ?_
      unfold ap
      rw [e]
    · left; exact e

theorem inj_surj {f : List Int} (hf : Good f) (hi : Inj f) {x : Nat} (hx : x < f.length) : ∃ k, k < f.length ∧ ap f k = x := by
  refine Classical.byContradiction fun hno => ?_
  have hn : ((List.range f.length).map (ap f)).Nodup := by
    rw [List.nodup_iff_pairwise_ne, List.pairwise_map]
    refine List.pairwise_iff_getElem.2 fun i j h1 h2 hij e => ?_
    simp only [List.length_range] at h1 h2
    simp only [List.getElem_range] at e
    have := hi i j h1 h2 e
    omega
  have h1 := nodup_lt_len f.length (x :: (List.range f.length).map (ap f)) (by
    rw [List.nodup_cons]
    refine ⟨fun hm => ?_, hn⟩
    obtain ⟨k, hk, e⟩ := List.mem_map.1 hm
    exact hno ⟨k, List.mem_range.1 hk, e⟩) (by
    intro y hy
    rcases List.mem_cons.1 hy with rfl | hy
    · exact hx
    · obtain ⟨k, hk, e⟩ := List.mem_map.1 hy
      rw [← e]
      exact hf.ap_lt (List.mem_range.1 hk))
  simp at h1
  omega

/-- the thing that is led to x -/
def back (f : List Int) (x : Nat) : Nat := ((List.range f.length).map (ap f)).idxOf x
theorem back_spec {f : List Int} (hf : Good f) (hi : Inj f) {x : Nat} (hx : x < f.length) : back f x < f.length ∧ ap f (back f x) = x := by
  obtain ⟨k, hk, e⟩ := inj_surj hf hi hx
  have hm : x ∈ (List.range f.length).map (ap f) := List.mem_map.2 ⟨k, List.mem_range.2 hk, e⟩
  have h1 := List.idxOf_lt_length_of_mem hm
  have h2 := List.getElem_idxOf h1
  simp only [List.getElem_map, List.getElem_range] at h2
  refine ⟨by unfold back; simpa using h1, h2⟩
theorem back_ap {f : List Int} (hf : Good f) (hi : Inj f) {k : Nat} (hk : k < f.length) : back f (ap f k) = k :=
  hi _ _ (back_spec hf hi (hf.ap_lt hk)).1 hk (back_spec hf hi (hf.ap_lt hk)).2

/-- what TurnedOf hands back -/
def turnedB (f : List Int) : Bool := mapOkB f && injB f
def turnedL (f : List Int) : List Int := if turnedB f = true then mk f.length (back f) else []
theorem turnedB_iff {f : List Int} : turnedB f = true ↔ Good f ∧ Inj f := by
  unfold turnedB
  rw [Bool.and_eq_true]
  constructor
  · rintro ⟨h1, h2⟩
    exact ⟨good_of h1, (injB_iff (good_of h1)).1 h2⟩
  · rintro ⟨h1, h2⟩
    exact ⟨ok_of h1, (injB_iff h1).2 h2⟩

/-- A MAP CAN BE TURNED ROUND EXACTLY IF ALL THINGS ARE ON LOOPS -/
theorem inj_iff_tails {f : List Int} (hf : Good f) : Inj f ↔ ∀ t, t < f.length → tail f t = 0 := by
  constructor
  · intro hi t ht
    rcases Nat.eq_zero_or_pos (tail f t) with h0 | h0
    · exact h0
    · exfalso
      have hl := loop_pos hf ht
      have e := it_round hf ht (Nat.le_refl (tail f t))
      have e1 : ap f (it f (tail f t - 1 + loop f t) t) = ap f (it f (tail f t - 1) t) := by
        show it f (tail f t - 1 + loop f t + 1) t = it f (tail f t - 1 + 1) t
        rw [show tail f t - 1 + loop f t + 1 = tail f t + loop f t by omega, show tail f t - 1 + 1 = tail f t by omega]
        exact e
      have e2 := hi _ _ (hf.it_lt ht _) (hf.it_lt ht _) e1
      have := (it_eq_iff hf ht (show tail f t - 1 < tail f t - 1 + loop f t by omega)).1 e2.symm
      omega
  · intro hz i j hi hj e
    have hli := loop_pos hf hi
    have hlj := loop_pos hf hj
    have e1 := it_round hf hi (a := 0) (by rw [hz i hi]; omega)
    have e2 := it_round hf hj (a := 0) (by rw [hz j hj]; omega)
    have l1 := loop_next hf hi
    have l2 := loop_next hf hj
    rw [Nat.zero_add, show loop f i = loop f i - 1 + 1 by omega, it_succ'] at e1
    rw [Nat.zero_add, show loop f j = loop f j - 1 + 1 by omega, it_succ'] at e2
    rw [← l1] at e1
    rw [← l2] at e2
    rw [e] at e1
    have : it f 0 i = it f 0 j := e1.symm.trans e2
    exact this

end Go.Proofs.Ytkbfcaaihellfaa
