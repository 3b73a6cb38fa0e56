/- Plain law: maps behind each other, turned maps. No program in sight. -/
import Derived.Test.YtjipecfoiddkjaaP1
namespace Go.Proofs.Ytjipecfoiddkjaa
set_option linter.unusedVariables false

/-- numbers as Go has them -/
def ints (l : List Nat) : List Int := l.map Int.ofNat
theorem ints_len (l : List Nat) : (ints l).length = l.length := by simp [ints]
theorem nth_ints {l : List Nat} {k : Nat} (h : k < l.length) : nth (ints l) k = (l[k] : Int) := by simp [nth, ints, h]
theorem ints_append (l r : List Nat) : ints (l ++ r) = ints l ++ ints r := by simp [ints]
theorem ints_inj {l r : List Nat} (h : ints l = ints r) : l = r := by
  unfold ints at h
  exact (List.map_inj_right (fun a b e => by injection e)).1 h

/-- the map that does what F tells -/
def mk (n : Nat) (F : Nat → Nat) : List Int := ints ((List.range n).map F)
theorem mk_len (n : Nat) (F : Nat → Nat) : (mk n F).length = n := by simp [mk, ints_len]
theorem nth_mk {n : Nat} {F : Nat → Nat} {k : Nat} (h : k < n) : nth (mk n F) k = (F k : Int) := by
  rw [mk, nth_ints (by simpa using h)]
  simp
theorem ap_mk {n : Nat} {F : Nat → Nat} {k : Nat} (h : k < n) : ap (mk n F) k = F k := by simp [ap, nth_mk h]
theorem mk_succ (n : Nat) (F : Nat → Nat) : mk (n + 1) F = mk n F ++ [(F n : Int)] := by simp [mk, ints, List.range_succ]
theorem good_mk {n : Nat} {F : Nat → Nat} (hn : 1 ≤ n ∧ n ≤ 7) (hF : ∀ k, k < n → F k < n) : Good (mk n F) := by
  refine ⟨by rw [mk_len]; exact hn, fun k hk => ?_⟩
  rw [mk_len] at hk ⊢
  rw [nth_mk hk]
  have := hF k hk
  omega
theorem ext_nth {xs ys : List Int} (hl : xs.length = ys.length) (h : ∀ k, k < xs.length → nth xs k = nth ys k) : xs = ys := by
  apply List.ext_getElem hl
  intro k h1 h2
  have := h k h1
  rwa [nth_lt h1, nth_lt h2] at this
theorem eq_mk {xs : List Int} (h : Good xs) : xs = mk xs.length (ap xs) := by
  refine ext_nth (by rw [mk_len]) (fun k hk => ?_)
  rw [nth_mk hk, h.nth_ap hk]
theorem mk_congr {n : Nat} {F G : Nat → Nat} (h : ∀ k, k < n → F k = G k) : mk n F = mk n G := by
  refine ext_nth (by rw [mk_len, mk_len]) (fun k hk => ?_)
  rw [mk_len] at hk
  rw [nth_mk hk, nth_mk hk, h k hk]
theorem mk_eq_iff {n : Nat} {F G : Nat → Nat} : mk n F = mk n G ↔ ∀ k, k < n → F k = G k := by
  refine ⟨fun h k hk => ?_, mk_congr⟩
  have : nth (mk n F) k = nth (mk n G) k := by rw [h]
  rw [nth_mk hk, nth_mk hk] at this
  omega
theorem good_ext {xs ys : List Int} (h : Good xs) (h' : Good ys) (hl : xs.length = ys.length) (he : ∀ k, k < xs.length → ap xs k = ap ys k) : xs = ys := by
  refine ext_nth hl (fun k hk => ?_)
  rw [h.nth_ap hk, h'.nth_ap (by omega), he k hk]

/-! ### SameOf, BehindOf -/
def sameL (n : Int) : List Int := if 1 ≤ n ∧ n ≤ 7 then mk n.toNat (fun k => k) else []
def behindL (f g : List Int) : List Int := if mapOkB f = true ∧ mapOkB g = true ∧ f.length = g.length then mk f.length (fun k => ap g (ap f k)) else []
theorem behindL_good {f g : List Int} (hf : Good f) (hg : Good g) (hl : f.length = g.length) : behindL f g = mk f.length (fun k => ap g (ap f k)) := by
  unfold behindL
  rw [if_pos ⟨ok_of hf, ok_of hg, hl⟩]
theorem behindL_no {f g : List Int} (h : ¬ (mapOkB f = true ∧ mapOkB g = true ∧ f.length = g.length)) : behindL f g = [] := by
  unfold behindL
  rw [if_neg h]
theorem good_behind {f g : List Int} (hf : Good f) (hg : Good g) (hl : f.length = g.length) : Good (behindL f g) ∧ (behindL f g).length = f.length := by
  rw [behindL_good hf hg hl]
  refine ⟨good_mk hf.1 (fun k hk => ?_), mk_len _ _⟩
  rw [hl]
  exact hg.ap_lt (by rw [← hl]; exact hf.ap_lt hk)
theorem behindL_len (f g : List Int) (h : f.length ≤ 1048577) : (behindL f g).length ≤ 1048577 := by
  unfold behindL
  split
  · rw [mk_len]; exact h
  · simp

/-! ### maps that can be turned round -/
/-- just one thing is led to each -/
def Inj (f : List Int) : Prop := ∀ i j, i < f.length → j < f.length → ap f i = ap f j → i = j
def injB (f : List Int) : Bool := (List.range f.length).all fun i => (List.range f.length).all fun j => !(nth f i == nth f j) || i == j
theorem injB_iff {f : List Int} (hf : Good f) : injB f = true ↔ Inj f := by
  simp only [injB, List.all_eq_true, List.mem_range, Bool.or_eq_true, Bool.not_eq_true', beq_eq_false_iff_ne, ne_eq, beq_iff_eq, Inj]
  constructor
  · intro h i j hi hj e
    rcases h i hi j hj with h1 | h1
    · exact absurd (by rw [hf.nth_ap hi, hf.nth_ap hj, e]) h1
    · exact h1
  · intro h i hi j hj
    by_cases e : nth f i = nth f j
    · right
      refine h i j hi hj ?_
      unfold ap
      rw [e]
    · left; exact e

theorem inj_surj {f : List Int} (hf : Good f) (hi : Inj f) {x : Nat} (hx : x < f.length) : ∃ k, k < f.length ∧ ap f k = x := by
  refine Classical.byContradiction fun hno => ?_
  have hn : ((List.range f.length).map (ap f)).Nodup := by
    rw [List.nodup_iff_pairwise_ne, List.pairwise_map]
    refine List.pairwise_iff_getElem.2 fun i j h1 h2 hij e => ?_
    simp only [List.length_range] at h1 h2
    simp only [List.getElem_range] at e
    have := hi i j h1 h2 e
    omega
  have h1 := nodup_lt_len f.length (x :: (List.range f.length).map (ap f)) (by
    rw [List.nodup_cons]
    refine ⟨fun hm => ?_, hn⟩
    obtain ⟨k, hk, e⟩ := List.mem_map.1 hm
    exact hno ⟨k, List.mem_range.1 hk, e⟩) (by
    intro y hy
    rcases List.mem_cons.1 hy with rfl | hy
    · exact hx
    · obtain ⟨k, hk, e⟩ := List.mem_map.1 hy
      rw [← e]
      exact hf.ap_lt (List.mem_range.1 hk))
  simp at h1
  omega

/-- the thing that is led to x -/
def back (f : List Int) (x : Nat) : Nat := ((List.range f.length).map (ap f)).idxOf x
theorem back_spec {f : List Int} (hf : Good f) (hi : Inj f) {x : Nat} (hx : x < f.length) : back f x < f.length ∧ ap f (back f x) = x := by
  obtain ⟨k, hk, e⟩ := inj_surj hf hi hx
  have hm : x ∈ (List.range f.length).map (ap f) := List.mem_map.2 ⟨k, List.mem_range.2 hk, e⟩
  have h1 := List.idxOf_lt_length_of_mem hm
  have h2 := List.getElem_idxOf h1
  simp only [List.getElem_map, List.getElem_range] at h2
  refine ⟨by unfold back; simpa using h1, h2⟩
theorem back_ap {f : List Int} (hf : Good f) (hi : Inj f) {k : Nat} (hk : k < f.length) : back f (ap f k) = k :=
  hi _ _ (back_spec hf hi (hf.ap_lt hk)).1 hk (back_spec hf hi (hf.ap_lt hk)).2

/-- what TurnedOf hands back -/
def turnedB (f : List Int) : Bool := mapOkB f && injB f
def turnedL (f : List Int) : List Int := if turnedB f = true then mk f.length (back f) else []
theorem turnedB_iff {f : List Int} : turnedB f = true ↔ Good f ∧ Inj f := by
  unfold turnedB
  rw [Bool.and_eq_true]
  constructor
  · rintro ⟨h1, h2⟩
    exact ⟨good_of h1, (injB_iff (good_of h1)).1 h2⟩
  · rintro ⟨h1, h2⟩
    exact ⟨ok_of h1, (injB_iff h1).2 h2⟩

/-- A MAP CAN BE TURNED ROUND EXACTLY IF ALL THINGS ARE ON LOOPS -/
theorem inj_iff_tails {f : List Int} (hf : Good f) : Inj f ↔ ∀ t, t < f.length → tail f t = 0 := by
  constructor
  · intro hi t ht
    rcases Nat.eq_zero_or_pos (tail f t) with h0 | h0
    · exact h0
    · exfalso
      have hl := loop_pos hf ht
      have e := it_round hf ht (Nat.le_refl (tail f t))
      have e1 : ap f (it f (tail f t - 1 + loop f t) t) = ap f (it f (tail f t - 1) t) := by
        show it f (tail f t - 1 + loop f t + 1) t = it f (tail f t - 1 + 1) t
        rw [show tail f t - 1 + loop f t + 1 = tail f t + loop f t by omega, show tail f t - 1 + 1 = tail f t by omega]
        exact e
      have e2 := hi _ _ (hf.it_lt ht _) (hf.it_lt ht _) e1
      have := (it_eq_iff hf ht (show tail f t - 1 < tail f t - 1 + loop f t by omega)).1 e2.symm
      omega
  · intro hz i j hi hj e
    have hli := loop_pos hf hi
    have hlj := loop_pos hf hj
    have e1 := it_round hf hi (a := 0) (by rw [hz i hi]; omega)
    have e2 := it_round hf hj (a := 0) (by rw [hz j hj]; omega)
    have l1 := loop_next hf hi
    have l2 := loop_next hf hj
    rw [Nat.zero_add, show loop f i = loop f i - 1 + 1 by omega, it_succ'] at e1
    rw [Nat.zero_add, show loop f j = loop f j - 1 + 1 by omega, it_succ'] at e2
    rw [← l1] at e1
    rw [← l2] at e2
    rw [e] at e1
    have : it f 0 i = it f 0 j := e1.symm.trans e2
    exact this

end Go.Proofs.Ytjipecfoiddkjaa
