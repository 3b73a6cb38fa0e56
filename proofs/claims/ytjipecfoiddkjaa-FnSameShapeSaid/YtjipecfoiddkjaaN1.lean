/- Plain law: texts of shapes do not change where things get other names. No program in sight. -/
import Derived.Test.YtjipecfoiddkjaaY5
namespace Go.Proofs.Ytjipecfoiddkjaa
open Go.RowKit Go.Sort
set_option linter.unusedVariables false

/-- p gives the things of f the names of those of g -/
structure Ren (f g p : List Int) : Prop where
  hf : Good f
  hg : Good g
  hp : Good p
  hi : Inj p
  lp : p.length = f.length
  lg : g.length = f.length
  eq : ∀ k, k < f.length → ap g (ap p k) = ap p (ap f k)

theorem Ren.of {f p : List Int} (hf : Good f) (ht : turnedB p = true) (hl : f.length = p.length) : Ren f (namedL f p) p := by
  obtain ⟨hp, hi⟩ := turnedB_iff.1 ht
  have e : namedL f p = Ytjipecfoiddkjaa.mk f.length (fun x => ap p (ap f (back p x))) := named_yes (ok_of hf) ht hl
  have hb : ∀ x, x < f.length → back p x < f.length ∧ ap p (back p x) = x := fun x hx => by
    have := back_spec hp hi (x := x) (by omega)
    exact ⟨by omega, this.2⟩
  refine ⟨hf, ?_, hp, hi, hl.symm, by rw [e, mk_len], fun k hk => ?_⟩
  · rw [e]
    exact good_mk hf.1 fun k hk => by
      have := hp.ap_lt (k := ap f (back p k)) (by rw [← hl]; exact hf.ap_lt (hb k hk).1)
      omega
  · have h1 : ap p k < f.length := by have := hp.ap_lt (k := k) (by omega); omega
    rw [e, ap_mk h1, back_ap hp hi (by omega)]

section
variable {f g p : List Int}
theorem Ren.plt (R : Ren f g p) {k : Nat} (hk : k < f.length) : ap p k < g.length := by
  have := R.hp.ap_lt (k := k) (by rw [R.lp]; exact hk)
  rw [R.lp] at this; rw [R.lg]; exact this
theorem Ren.inj (R : Ren f g p) {i j : Nat} (h1 : i < f.length) (h2 : j < f.length) (h : ap p i = ap p j) : i = j := R.hi i j (by rw [R.lp]; exact h1) (by rw [R.lp]; exact h2) h
theorem Ren.surj (R : Ren f g p) {x : Nat} (hx : x < g.length) : ∃ k, k < f.length ∧ ap p k = x := by
  obtain ⟨k, h1, h2⟩ := inj_surj R.hp R.hi (x := x) (by rw [R.lp, ← R.lg]; exact hx)
  exact ⟨k, by rw [← R.lp]; exact h1, h2⟩
theorem Ren.it (R : Ren f g p) {k : Nat} (hk : k < f.length) : ∀ j, it g j (ap p k) = ap p (it f j k)
  | 0 => rfl
  | j + 1 => by
    show ap g (Ytjipecfoiddkjaa.it g j (ap p k)) = ap p (ap f (Ytjipecfoiddkjaa.it f j k))
    rw [R.it hk j, R.eq _ (R.hf.it_lt hk j)]
theorem Ren.tail_loop (R : Ren f g p) {k : Nat} (hk : k < f.length) : tail g (ap p k) = tail f k ∧ loop g (ap p k) = loop f k := by
  refine tail_loop_of R.hg (R.plt hk) (loop_pos R.hf hk) ?_ fun i j h1 h2 e => ?_
  · rw [R.it hk, R.it hk, it_round R.hf hk (Nat.le_refl _)]
  · rw [R.it hk, R.it hk] at e
    have h3 := rho_eq R.hf hk
    have := it_inj R.hf hk (i := i) (j := j) (by omega) (by omega) (R.inj (R.hf.it_lt hk _) (R.hf.it_lt hk _) e)
    omega
theorem Ren.rho (R : Ren f g p) {k : Nat} (hk : k < f.length) : rho g (ap p k) = rho f k := by
  rw [rho_eq R.hg (R.plt hk), rho_eq R.hf hk, (R.tail_loop hk).1, (R.tail_loop hk).2]
theorem nodup_map {φ : Nat → Nat} {l : List Nat} (hl : l.Nodup) (h : ∀ x ∈ l, ∀ y ∈ l, φ x = φ y → x = y) : (l.map φ).Nodup := by
  unfold List.Nodup
  rw [List.pairwise_map]
  refine List.Pairwise.imp_of_mem (fun {a b} ha hb hne e => hne (h a ha b hb e)) hl
theorem Ren.childs (R : Ren f g p) {t : Nat} (ht : t < f.length) : (childs g (ap p t) g.length).Perm ((childs f t f.length).map (ap p)) := by
  refine (List.perm_ext_iff_of_nodup (childs_nodup _ _ _) (nodup_map (childs_nodup _ _ _) fun x hx y hy e => R.inj (mem_childs.1 hx).1 (mem_childs.1 hy).1 e)).2 fun y => ?_
  rw [mem_childs, List.mem_map]
  constructor
  · rintro ⟨h1, h2, h3⟩
    obtain ⟨x, hx, rfl⟩ := R.surj h1
    refine ⟨x, mem_childs.2 ⟨hx, ?_, ?_⟩, rfl⟩
    · rw [R.hg.nth_ap h1, R.eq x hx] at h2
      have h4 : ap p (ap f x) = ap p t := by omega
      rw [R.hf.nth_ap hx, R.inj (R.hf.ap_lt hx) ht h4]
    · rw [(R.tail_loop hx).1] at h3; exact h3
  · rintro ⟨x, hx, rfl⟩
    obtain ⟨h1, h2, h3⟩ := mem_childs.1 hx
    refine ⟨R.plt h1, ?_, ?_⟩
    · rw [R.hg.nth_ap (R.plt h1), R.eq x h1]
      rw [R.hf.nth_ap h1] at h2
      have : ap f x = t := by omega
      rw [this]
    · rw [(R.tail_loop h1).1]; exact h3
theorem Ren.treeT (R : Ren f g p) : ∀ d t, t < f.length → treeT g d (ap p t) = treeT f d t
  | 0, _, _ => rfl
  | d + 1, t, ht => by
    have e : ((Ytjipecfoiddkjaa.childs f t f.length).map (ap p)).map (Ytjipecfoiddkjaa.treeT g d) = (Ytjipecfoiddkjaa.childs f t f.length).map (Ytjipecfoiddkjaa.treeT f d) := by
      rw [List.map_map]
      exact List.map_congr_left fun x hx => R.treeT d x (mem_childs.1 hx).1
    rw [Ytjipecfoiddkjaa.treeT, Ytjipecfoiddkjaa.treeT, sortT_congr ((R.childs ht).map (Ytjipecfoiddkjaa.treeT g d)), e]
theorem Ren.tree (R : Ren f g p) {t : Nat} (ht : t < f.length) : tree g (ap p t) = tree f t := by
  rw [Ytjipecfoiddkjaa.tree, Ytjipecfoiddkjaa.tree, (R.tail_loop ht).1, R.treeT _ t ht]

/-! ### loops -/
theorem best_le (ss : List Txt) : ∀ k i, i < k → bestT ss k ≤ rot ss i
  | 0, i, h => by omega
  | k + 1, i, h => by
    rw [bestT]
    by_cases h1 : rot ss k < bestT ss k
    · rw [if_pos h1]
      rcases Nat.lt_or_ge i k with h2 | h2
      · exact List.le_trans (List.le_of_lt h1) (best_le ss k i h2)
      · obtain rfl : i = k := by omega
        exact List.le_refl _
    · rw [if_neg h1]
      rcases Nat.lt_or_ge i k with h2 | h2
      · exact best_le ss k i h2
      · obtain rfl : i = k := by omega
        exact List.not_lt.1 h1
theorem best_mem (ss : List Txt) : ∀ k, 0 < k → ∃ i, i < k ∧ bestT ss k = rot ss i
  | 0, h => by omega
  | k + 1, _ => by
    rcases Nat.eq_zero_or_pos k with rfl | hk
    · exact ⟨0, by omega, bestT_one ss⟩
    · rw [bestT]
      obtain ⟨i, h1, h2⟩ := best_mem ss k hk
      by_cases h : rot ss k < bestT ss k
      · rw [if_pos h]; exact ⟨k, by omega, rfl⟩
      · rw [if_neg h]; exact ⟨i, by omega, h2⟩
theorem best_rot {ss tt : List Txt} (hl : tt.length = ss.length) (hp : 0 < ss.length) (m : Nat) (h : ∀ i, i < ss.length → tt.getD i [] = ss.getD ((m + i) % ss.length) []) : bestT tt tt.length = bestT ss ss.length := by
  have hr : ∀ k, k < ss.length → rot tt k = rot ss ((m + k) % ss.length) := fun k hk => by
    rw [← rotN_end (by rw [hl]; exact hk), ← rotN_end (Nat.mod_lt _ hp), rotN, rotN, hl]
    congr 1
    refine List.map_congr_left fun i hi => ?_
    rw [h _ (Nat.mod_lt _ hp)]
    congr 1
    rw [Nat.add_mod_mod, Nat.mod_add_mod, Nat.add_assoc]
  refine List.le_antisymm ?_ ?_
  · obtain ⟨i, h1, h2⟩ := best_mem ss ss.length hp
    rw [h2]
    obtain ⟨k, hk, e⟩ : ∃ k, k < ss.length ∧ (m + k) % ss.length = i := by
      refine ⟨(i + (ss.length - m % ss.length)) % ss.length, Nat.mod_lt _ hp, ?_⟩
      have h3 := Nat.mod_lt m hp
      rw [Nat.add_mod_mod, ← Nat.mod_add_mod, show m % ss.length + (i + (ss.length - m % ss.length)) = i + ss.length by omega, Nat.add_mod_right, Nat.mod_eq_of_lt h1]
    rw [← e, ← hr k hk]
    exact best_le tt _ k (by rw [hl]; exact hk)
  · obtain ⟨i, h1, h2⟩ := best_mem tt tt.length (by rw [hl]; exact hp)
    rw [h2, hr i (by rw [← hl]; exact h1)]
    exact best_le ss _ _ (Nat.mod_lt _ hp)
theorem ring_get {f : List Int} {n j : Nat} (hj : j < (ringT f n).length) : (ringT f n).getD j [] = tree f (it f j (loopOf f n)) := by
  have hl : j < (way f (loopOf f n)).length := by rw [ringT, List.length_map] at hj; exact hj
  rw [List.getD_eq_getElem?_getD, List.getElem?_eq_getElem hj]
  show (ringT f n)[j] = _
  simp only [ringT, List.getElem_map]
  rw [show (way f (loopOf f n))[j] = it f j (loopOf f n) from walk_get f _ _ j hl]
theorem Ren.loopOf_on (R : Ren f g p) {k : Nat} (hk : k < f.length) : ∃ m, loopOf g (ap p k) = ap p (Ytjipecfoiddkjaa.it f m (loopOf f k)) := by
  have hlo := loopOf_lt R.hf hk
  obtain ⟨a, _, ea⟩ := loopOf_mem R.hf hk
  have e1 : loopOf g (ap p (loopOf f k)) = loopOf g (ap p k) := by
    rw [← ea, ← R.it hk a, loopOf_it R.hg (R.plt hk) a]
  obtain ⟨m, _, em⟩ := loopOf_mem R.hg (R.plt hlo)
  rw [R.it hlo] at em
  exact ⟨m, by rw [← e1, em]⟩
theorem Ren.loopT (R : Ren f g p) {k : Nat} (hk : k < f.length) : loopT g (ap p k) = loopT f k := by
  have hlo := loopOf_lt R.hf hk
  have ht0 := loopOf_tail R.hf hk
  obtain ⟨m, em⟩ := R.loopOf_on hk
  have hmlt := R.hf.it_lt hlo m
  have hlen : (ringT g (ap p k)).length = (ringT f k).length := by
    rw [ring_len, ring_len, em, R.rho hmlt, rho_eq R.hf hmlt, rho_eq R.hf hlo, loop_it_eq R.hf hlo, tail_it_eq R.hf hlo, ht0, Nat.zero_sub]
  have hrl : (ringT f k).length = loop f (loopOf f k) := by rw [ring_len, rho_loop R.hf hlo ht0]
  rw [Ytjipecfoiddkjaa.loopT, Ytjipecfoiddkjaa.loopT]
  refine best_rot hlen (ring_pos R.hf hk).1 m fun i hi => ?_
  rw [ring_get (by rw [hlen]; exact hi), ring_get (Nat.mod_lt _ (by omega)), em, R.it hmlt, R.tree (R.hf.it_lt hmlt _), ← it_add, Nat.add_comm i m, hrl]
  have := it_mod R.hf hlo (a := m + i) (by rw [ht0]; omega)
  rw [ht0, Nat.zero_add, Nat.sub_zero] at this
  rw [this]
theorem loopT_it {f : List Int} (hf : Good f) {n : Nat} (hn : n < f.length) : ∀ j, loopT f (it f j n) = loopT f n
  | 0 => rfl
  | j + 1 => by
    show loopT f (ap f (it f j n)) = _
    rw [loopT_next hf (hf.it_lt hn j), loopT_it hf hn j]
theorem Ren.mins (R : Ren f g p) : (mins g).Perm ((mins f).map fun t => loopOf g (ap p t)) := by
  have hn : ∀ h : List Int, (Ytjipecfoiddkjaa.mins h).Nodup := fun h => List.Nodup.sublist List.filter_sublist List.nodup_range
  refine (List.perm_ext_iff_of_nodup (hn g) (nodup_map (hn f) fun x hx y hy e => ?_)).2 fun y => ?_
  · obtain ⟨h1, h2⟩ := mem_mins.1 hx
    obtain ⟨h3, h4⟩ := mem_mins.1 hy
    obtain ⟨a, ea⟩ := R.loopOf_on h1
    obtain ⟨b, eb⟩ := R.loopOf_on h3
    rw [h2] at ea
    rw [h4] at eb
    rw [ea, eb] at e
    have := R.inj (R.hf.it_lt h1 _) (R.hf.it_lt h3 _) e
    have h5 := loopOf_it R.hf h1 a
    rw [this, loopOf_it R.hf h3 b, h4, h2] at h5
    exact h5.symm
  · rw [mem_mins, List.mem_map]
    constructor
    · rintro ⟨h1, h2⟩
      obtain ⟨k, hk, rfl⟩ := R.surj h1
      refine ⟨loopOf f k, mem_mins.2 ⟨loopOf_lt R.hf hk, loopOf_idem R.hf hk⟩, ?_⟩
      obtain ⟨a, _, ea⟩ := loopOf_mem R.hf hk
      rw [← ea, ← R.it hk a, loopOf_it R.hg (R.plt hk) a, h2]
    · rintro ⟨t, ht, rfl⟩
      obtain ⟨h1, _⟩ := mem_mins.1 ht
      exact ⟨loopOf_lt R.hg (R.plt h1), loopOf_idem R.hg (R.plt h1)⟩
theorem Ren.shapeT (R : Ren f g p) : shapeT g = shapeT f := by
  have e : ((Ytjipecfoiddkjaa.mins f).map fun t => loopOf g (ap p t)).map (Ytjipecfoiddkjaa.loopT g) = (Ytjipecfoiddkjaa.mins f).map (Ytjipecfoiddkjaa.loopT f) := by
    rw [List.map_map]
    refine List.map_congr_left fun t ht => ?_
    have h1 := (mem_mins.1 ht).1
    obtain ⟨a, _, ea⟩ := loopOf_mem R.hg (R.plt h1)
    show Ytjipecfoiddkjaa.loopT g (loopOf g (ap p t)) = _
    rw [← ea, loopT_it R.hg (R.plt h1), R.loopT h1]
  rw [Ytjipecfoiddkjaa.shapeT, Ytjipecfoiddkjaa.shapeT, loopsT_mins R.hg, loopsT_mins R.hf, sortT_congr (R.mins.map (Ytjipecfoiddkjaa.loopT g)), e]
end
theorem turned_turned {p : List Int} (h : turnedB p = true) : turnedB (turnedL p) = true ∧ (turnedL p).length = p.length ∧ ∀ k, k < p.length → ap (turnedL p) (ap p k) = k := by
  obtain ⟨hp, hi⟩ := turnedB_iff.1 h
  have e : turnedL p = mk p.length (back p) := if_pos h
  refine ⟨turnedB_iff.2 ⟨by rw [e]; exact good_mk hp.1 fun k hk => (back_spec hp hi hk).1, fun i j h1 h2 h3 => ?_⟩, by rw [e, mk_len], fun k hk => by rw [e, ap_mk (hp.ap_lt hk), back_ap hp hi hk]⟩
  rw [e, mk_len] at h1 h2
  rw [e, ap_mk h1, ap_mk h2] at h3
  rw [← (back_spec hp hi h1).2, h3, (back_spec hp hi h2).2]
/-- a renamed map and the names tell each other -/
theorem Ren.named {f g p : List Int} (R : Ren f g p) : namedL f p = g := by
  have ht := turnedB_iff.2 ⟨R.hp, R.hi⟩
  rw [named_yes (ok_of R.hf) ht R.lp.symm]
  refine ext_nth (by rw [mk_len, R.lg]) fun k hk => ?_
  rw [mk_len] at hk
  have hb := back_spec R.hp R.hi (x := k) (by rw [R.lp]; exact hk)
  rw [nth_mk hk, ← R.eq _ (by rw [← R.lp]; exact hb.1), hb.2, R.hg.nth_ap (by rw [R.lg]; exact hk)]
theorem Ren.back {f g p : List Int} (R : Ren f g p) : Ren g f (turnedL p) := by
  obtain ⟨h1, h2, h3⟩ := turned_turned (turnedB_iff.2 ⟨R.hp, R.hi⟩)
  obtain ⟨h4, h5⟩ := turnedB_iff.1 h1
  refine ⟨R.hg, R.hf, h4, h5, by rw [h2, R.lp, R.lg], R.lg.symm, fun k hk => ?_⟩
  obtain ⟨x, hx, rfl⟩ := R.surj hk
  rw [R.eq x hx, h3 _ (by rw [R.lp]; exact hx), h3 _ (by rw [R.lp]; exact R.hf.ap_lt hx)]
theorem Ren.trans {f g h p q : List Int} (R : Ren f g p) (S : Ren g h q) : Ren f h (Ytjipecfoiddkjaa.mk f.length fun k => ap q (ap p k)) := by
  have hq : ∀ k, k < f.length → ap q (ap p k) < f.length := fun k hk => by
    have := S.plt (R.plt hk)
    rw [S.lg, R.lg] at this; exact this
  refine ⟨R.hf, S.hg, good_mk R.hf.1 hq, fun i j h1 h2 e => ?_, mk_len _ _, by rw [S.lg, R.lg], fun k hk => ?_⟩
  · rw [mk_len] at h1 h2
    rw [ap_mk h1, ap_mk h2] at e
    exact R.inj h1 h2 (S.inj (R.plt h1) (R.plt h2) e)
  · rw [ap_mk hk, ap_mk (R.hf.ap_lt hk), S.eq _ (R.plt hk), R.eq k hk]
theorem Ren.pw {f g p : List Int} (R : Ren f g p) (m : Nat) : Ren (pw f m) (pw g m) p := by
  refine ⟨good_pw R.hf m, good_pw R.hg m, R.hp, R.hi, by rw [pw_len, R.lp], by rw [pw_len, pw_len, R.lg], fun k hk => ?_⟩
  rw [pw_len] at hk
  rw [ap_pw (R.plt hk), ap_pw hk, R.it hk]

end Go.Proofs.Ytjipecfoiddkjaa
