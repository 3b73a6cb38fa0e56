/- Steps on the way to the law; each part says what it proves. -/
import Derived.Test.YtkbfcaaihellfaaU25
import Derived.Test.YtkbfcaaihellfaaU23
import Derived.Test.YtkbfcaaihellfaaU14

set_option linter.unusedSimpArgs false

/- Plain law: powers of a map, its index and period. No program in sight. -/
namespace Go.Proofs.Ytkbfcaaihellfaa
set_option linter.unusedVariables false

/-- the map put behind itself m times, as a row -/
def pw (f : List Int) (m : Nat) : List Int := mk f.length (it f m)
def powL (f : List Int) (n : Int) : List Int := if mapOkB f = true ∧ 0 ≤ n ∧ n ≤ 1000000 then pw f n.toNat else []
theorem pw_len (f : List Int) (m : Nat) : (pw f m).length = f.length := mk_len _ _
theorem good_pw {f : List Int} (hf : Good f) (m : Nat) : Good (pw f m) := good_mk hf.1 fun k hk => hf.it_lt hk m
theorem ap_pw {f : List Int} {k : Nat} (hk : k < f.length) (m : Nat) : ap (pw f m) k = it f m k := ap_mk hk
theorem behind_pw {f : List Int} (hf : Good f) (a b : Nat) : behindL (pw f a) (pw f b) = pw f (b + a) := by
  rw [behindL_good (good_pw hf a) (good_pw hf b) (by rw [pw_len, pw_len]), pw_len]
  show _ = mk f.length (it f (b + a))
  refine mk_congr fun k hk => ?_
  rw [ap_pw hk, ap_pw (hf.it_lt hk a), it_add]
theorem pw_one {f : List Int} (hf : Good f) : pw f 1 = f := (eq_mk hf).symm
theorem pw_zero {f : List Int} (hf : Good f) : pw f 0 = sameL f.length := by
  have h := hf.1
  rw [sameL, if_pos (by omega), Int.toNat_natCast]
  rfl
theorem powL_yes {f : List Int} (hf : Good f) {m : Nat} (hm : m ≤ 1000000) : powL f m = pw f m := by
  rw [powL, if_pos ⟨ok_of hf, by omega, by omega⟩, Int.toNat_natCast]
theorem powL_no {f : List Int} {n : Int} (h : ¬ (mapOkB f = true ∧ 0 ≤ n ∧ n ≤ 1000000)) : powL f n = [] := if_neg h
theorem powL_len (f : List Int) (n : Int) (h : f.length ≤ 1048577) : (powL f n).length ≤ 1048577 := by
  unfold powL
  split
  · rw [pw_len]; exact h
  · simp
theorem pw_ne {f : List Int} (hf : Good f) (m : Nat) : pw f m ≠ [] := fun e => by
  have := pw_len f m
  rw [e] at this
  have h := hf.1
  simp at this
  omega
theorem pw_eq_iff {f : List Int} (hf : Good f) {a b : Nat} (hab : a < b) : pw f a = pw f b ↔ ∀ t, t < f.length → tail f t ≤ a ∧ loop f t ∣ b - a := by
  rw [pw, pw, mk_eq_iff]
  exact ⟨fun h t ht => (it_eq_iff hf ht hab).1 (h t ht), fun h t ht => (it_eq_iff hf ht hab).2 (h t ht)⟩
theorem idem_pw {f : List Int} (hf : Good f) {m : Nat} (hm : 0 < m) : idemB (pw f m) = true ↔ ∀ t, t < f.length → tail f t ≤ m ∧ loop f t ∣ m := by
  unfold idemB
  rw [ok_of (good_pw hf m), Bool.true_and, decide_eq_true_eq, behind_pw hf, eq_comm, pw_eq_iff hf (by omega), show m + m - m = m by omega]

/-! ### the period -/
theorem per_lcm (xss : List (List Int)) (j : Nat) : per xss (j + 1) = Nat.lcm (per xss j) (gl xss j).length := by
  rw [per, Nat.lcm, Nat.div_mul_right_comm (Nat.gcd_dvd_left _ _)]
theorem per_dvd_iff (xss : List (List Int)) (m : Nat) : ∀ j, per xss j ∣ m ↔ ∀ i, i < j → (gl xss i).length ∣ m
  | 0 => by simp [per]
  | j + 1 => by
    rw [per_lcm, Nat.lcm_dvd_iff, per_dvd_iff xss m j]
    constructor
    · rintro ⟨h1, h2⟩ i hi
      rcases Nat.lt_succ_iff_lt_or_eq.1 hi with h | rfl
      · exact h1 i h
      · exact h2
    · intro h
      exact ⟨fun i hi => h i (by omega), h j (by omega)⟩
theorem loopsK_has (f : List Int) : ∀ k t, t < k → loopOf f t = t → ∃ j, j < (loopsK f k).length ∧ gl (loopsK f k) j = ints (way f t)
  | 0, t, h, _ => by omega
  | k + 1, t, h, ht => by
    rw [loopsK]
    by_cases e : t = k
    · subst e
      rw [if_pos ht]
      exact ⟨(loopsK f t).length, by simp, gl_app_end _ _⟩
    · obtain ⟨j, h1, h2⟩ := loopsK_has f k t (by omega) ht
      split
      · exact ⟨j, by rw [List.length_append]; omega, by rw [gl_app_lt h1]; exact h2⟩
      · exact ⟨j, h1, h2⟩
theorem rho_loop {f : List Int} (hf : Good f) {t : Nat} (ht : t < f.length) (h : tail f t = 0) : rho f t = loop f t := by
  rw [rho_eq hf ht, h, Nat.zero_add]
theorem loopOf_loop {f : List Int} (hf : Good f) {t : Nat} (ht : t < f.length) : loop f (loopOf f t) = loop f t := by
  obtain ⟨a, _, e⟩ := loopOf_mem hf ht
  rw [← e, loop_it_eq hf ht]
/-- the period, as a number -/
def perN (f : List Int) : Nat := per (loopsLL f) (loopsLL f).length
theorem loopsLL_yes {f : List Int} (hf : Good f) : loopsLL f = loopsK f f.length := if_pos (ok_of hf)
theorem perN_dvd {f : List Int} (hf : Good f) (m : Nat) : perN f ∣ m ↔ ∀ t, t < f.length → loop f t ∣ m := by
  rw [perN, per_dvd_iff, loopsLL_yes hf]
  constructor
  · intro h t ht
    obtain ⟨j, hj, e⟩ := loopsK_has f f.length (loopOf f t) (loopOf_lt hf ht) (loopOf_idem hf ht)
    have h1 := h j hj
    rwa [e, way_len, rho_loop hf (loopOf_lt hf ht) (loopOf_tail hf ht), loopOf_loop hf ht] at h1
  · intro h j hj
    obtain ⟨t, ht, e, hw⟩ := loopsK_mem f _ j hj
    rw [hw, way_len, rho_loop hf ht (loopOf_self hf ht e)]
    exact h t ht
theorem perN_bd {f : List Int} (hf : Good f) : 1 ≤ perN f ∧ perN f ≤ 823543 := by
  have h7 := hf.1.2
  obtain ⟨h1, h2⟩ := per_bound (loopsLL f) (fun j hj => ⟨(loops_long hf hj).1, by have := (loops_long hf hj).2; omega⟩) _ (Nat.le_refl _)
  exact ⟨h1, Nat.le_trans h2 (pow7 _ (loopsLL_len f h7))⟩
theorem periodV_yes {f : List Int} (hf : Good f) : periodV f = (perN f : Int) := if_pos (ok_of hf)

/-! ### the index -/
def idxN (f : List Int) : Nat := (indexV f).toNat
theorem idxN_spec {f : List Int} (hf : Good f) : indexV f = (idxN f : Int) ∧ 1 ≤ idxN f ∧ idxN f ≤ 7 ∧ (∀ m : Nat, 1 ≤ m → (idxN f ≤ m ↔ ∀ t, t < f.length → tail f t ≤ m)) ∧ (1 < idxN f → ∃ t, t < f.length ∧ tail f t = idxN f) ∧ idxN f < max f.length 2 := by
  have h1 := hf.1
  have hh : highV f = hiT f f.length := if_pos (ok_of hf)
  have hi : indexV f = if highV f ≤ 1 then 1 else highV f := if_pos (ok_of hf)
  obtain ⟨j, hj, e⟩ := hiT_mem f f.length (by omega)
  have hhi := hiT_high hf (Nat.le_refl f.length)
  have key : indexV f = (idxN f : Int) ∧ 1 ≤ idxN f ∧ ((idxN f : Int) = 1 ∧ highV f ≤ 1 ∨ (idxN f : Int) = highV f ∧ 1 < highV f) := by
    unfold idxN
    rw [hi]
    split <;> omega
  obtain ⟨k1, k2, k3⟩ := key
  refine ⟨k1, k2, by omega, fun m hm => ⟨fun h t ht => ?_, fun h => ?_⟩, fun h => ⟨j, hj, by omega⟩, by omega⟩
  · have := hiT_le f f.length t ht
    omega
  · have := h j hj
    omega

/-- A POWER IS IDEMPOTENT EXACTLY IF ITS NUMBER IS NO LESS THAN THE INDEX AND A MULTIPLE OF THE PERIOD -/
theorem idem_iff {f : List Int} (hf : Good f) {m : Nat} (hm : 0 < m) : idemB (pw f m) = true ↔ idxN f ≤ m ∧ perN f ∣ m := by
  rw [idem_pw hf hm, (idxN_spec hf).2.2.2.1 m hm, perN_dvd hf]
  exact ⟨fun h => ⟨fun t ht => (h t ht).1, fun t ht => (h t ht).2⟩, fun h t ht => ⟨h.1 t ht, h.2 t ht⟩⟩
theorem pw_eq_iff' {f : List Int} (hf : Good f) {a b : Nat} (ha : 1 ≤ a) (hab : a < b) : pw f a = pw f b ↔ idxN f ≤ a ∧ perN f ∣ b - a := by
  rw [pw_eq_iff hf hab, (idxN_spec hf).2.2.2.1 a ha, perN_dvd hf]
  exact ⟨fun h => ⟨fun t ht => (h t ht).1, fun t ht => (h t ht).2⟩, fun h t ht => ⟨h.1 t ht, h.2 t ht⟩⟩
/-- the least multiple of the period from the index on -/
def setN (f : List Int) : Nat := (idxN f + perN f - 1) / perN f * perN f
theorem setN_spec {f : List Int} (hf : Good f) : idxN f ≤ setN f ∧ setN f < idxN f + perN f ∧ perN f ∣ setN f ∧ 1 ≤ setN f ∧ setN f ≤ 823549 ∧ ∀ m, idxN f ≤ m → perN f ∣ m → setN f ≤ m := by
  have hp := perN_bd hf
  have hi := idxN_spec hf
  have d := Nat.div_add_mod (idxN f + perN f - 1) (perN f)
  have m := Nat.mod_lt (idxN f + perN f - 1) hp.1
  have e : setN f = perN f * ((idxN f + perN f - 1) / perN f) := by rw [setN, Nat.mul_comm]
  have h1 : idxN f ≤ setN f := by rw [e]; omega
  have h2 : setN f < idxN f + perN f := by rw [e]; omega
  refine ⟨h1, h2, ⟨_, e⟩, by omega, by omega, fun k hk ⟨q, hq⟩ => ?_⟩
  rw [hq, e]
  refine Nat.mul_le_mul_left _ ?_
  apply Nat.le_of_not_lt
  intro hlt
  have h3 : perN f * (q + 1) ≤ perN f * ((idxN f + perN f - 1) / perN f) := Nat.mul_le_mul_left _ hlt
  rw [Nat.mul_succ] at h3
  rw [e] at h2
  omega

/-! ### maps that turn round -/
theorem turned_high {f : List Int} (hf : Good f) : turnedB f = true ↔ highV f ≤ 0 := by
  have hh : highV f = hiT f f.length := if_pos (ok_of hf)
  have h1 := hf.1
  rw [turnedB_iff, hh]
  obtain ⟨j, hj, e⟩ := hiT_mem f f.length (by omega)
  constructor
  · rintro ⟨_, hi⟩
    have := (inj_iff_tails hf).1 hi j hj
    omega
  · intro h
    refine ⟨hf, (inj_iff_tails hf).2 fun t ht => ?_⟩
    have := hiT_le f f.length t ht
    omega
def orderV (f : List Int) : Int := if turnedB f = true then periodV f else -1

end Go.Proofs.Ytkbfcaaihellfaa

/- Plain law: loops counted; the period is at most 12; turns that go with a turn. No program in sight. -/
namespace Go.Proofs.Ytkbfcaaihellfaa
set_option linter.unusedVariables false

def sumZ (xs : List Int) : Nat → Int
  | 0 => 0
  | k + 1 => sumZ xs k + nth xs k
def wsumZ (xs : List Int) : Nat → Int
  | 0 => 0
  | k + 1 => wsumZ xs k + ((k : Int) + 1) * nth xs k
theorem sumZ_set (xs : List Int) (i : Nat) (hi : i < xs.length) (z : Int) : ∀ n, sumZ (xs.set i z) n = sumZ xs n + if i < n then z - nth xs i else 0
  | 0 => by simp [sumZ]
  | n + 1 => by
    rw [sumZ, sumZ, sumZ_set xs i hi z n, nth_set]
    by_cases h1 : i < n
    · rw [if_pos h1, if_neg (fun h => by omega), if_pos (by omega)]; omega
    · by_cases h2 : i = n
      · subst h2; rw [if_neg h1, if_pos ⟨rfl, hi⟩, if_pos (by omega)]; omega
      · rw [if_neg h1, if_neg (fun h => h2 h.1), if_neg (by omega)]; omega
theorem wsumZ_set (xs : List Int) (i : Nat) (hi : i < xs.length) (z : Int) : ∀ n, wsumZ (xs.set i z) n = wsumZ xs n + if i < n then ((i : Int) + 1) * (z - nth xs i) else 0
  | 0 => by simp [wsumZ]
  | n + 1 => by
    rw [wsumZ, wsumZ, wsumZ_set xs i hi z n, nth_set]
    by_cases h1 : i < n
    · rw [if_pos h1, if_neg (fun h => by omega), if_pos (by omega)]; omega
    · by_cases h2 : i = n
      · subst h2
        rw [if_neg h1, if_pos ⟨rfl, hi⟩, if_pos (by omega), Int.mul_sub]; omega
      · rw [if_neg h1, if_neg (fun h => h2 h.1), if_neg (by omega)]; omega
theorem sumZ_rep (n k : Nat) : sumZ (List.replicate n 0) k = 0 := by
  induction k with
  | zero => rfl
  | succ k ih =>
    have : nth (List.replicate n (0 : Int)) k = 0 := by by_cases h : k < n <;> simp [nth, h]
    rw [sumZ, ih, this]; rfl
theorem wsumZ_rep (n k : Nat) : wsumZ (List.replicate n 0) k = 0 := by
  induction k with
  | zero => rfl
  | succ k ih =>
    have : nth (List.replicate n (0 : Int)) k = 0 := by by_cases h : k < n <;> simp [nth, h]
    rw [wsumZ, ih, this]; simp
/-- how many things the first j rows have together -/
def lsum (xss : List (List Int)) : Nat → Nat
  | 0 => 0
  | j + 1 => lsum xss j + (gl xss j).length
theorem kk_sums (n : Nat) (xss : List (List Int)) (h : ∀ j, j < xss.length → 1 ≤ (gl xss j).length ∧ (gl xss j).length ≤ n) : ∀ j, j ≤ xss.length → sumZ (kk n xss j) n = j ∧ wsumZ (kk n xss j) n = lsum xss j
  | 0, _ => by rw [kk, sumZ_rep, wsumZ_rep]; exact ⟨rfl, rfl⟩
  | j + 1, hj => by
    obtain ⟨h1, h2⟩ := kk_sums n xss h j (by omega)
    obtain ⟨h3, h4⟩ := h j (by omega)
    have hl : (gl xss j).length - 1 < (kk n xss j).length := by rw [kk_len]; omega
    rw [kk, sumZ_set _ _ hl, wsumZ_set _ _ hl, h1, h2, if_pos (by omega), if_pos (by omega), lsum]
    refine ⟨by omega, ?_⟩
    rw [show nth (kk n xss j) ((gl xss j).length - 1) + 1 - nth (kk n xss j) ((gl xss j).length - 1) = 1 by omega]
    omega
theorem lsum_app (xss : List (List Int)) (z : List Int) : ∀ j, j ≤ xss.length → lsum (xss ++ [z]) j = lsum xss j
  | 0, _ => rfl
  | j + 1, h => by rw [lsum, lsum, lsum_app xss z j (by omega), gl_app_lt (by omega)]
theorem lsum_snoc (xss : List (List Int)) (z : List Int) : lsum (xss ++ [z]) (xss ++ [z]).length = lsum xss xss.length + z.length := by
  rw [List.length_append, show xss.length + [z].length = xss.length + 1 from rfl, lsum, lsum_app _ _ _ (Nat.le_refl _), gl_app_end]

/-! ### things on loops -/
theorem same_len {l r : List Nat} (hl : l.Nodup) (hr : r.Nodup) (h : ∀ x, x ∈ l ↔ x ∈ r) : l.length = r.length := ((List.perm_ext_iff_of_nodup hl hr).2 h).length_eq
/-- how many things are on loops whose least thing is less than k -/
def onK (f : List Int) (k : Nat) : List Nat := (List.range f.length).filter fun x => tail f x == 0 && decide (loopOf f x < k)
def onN (f : List Int) : Nat := ((List.range f.length).filter fun x => tail f x == 0).length
theorem onK_succ (f : List Int) (k : Nat) : (onK f (k + 1)).length = (onK f k).length + ((List.range f.length).filter fun x => tail f x == 0 && decide (loopOf f x = k)).length := by
  unfold onK
  generalize List.range f.length = l
  induction l with
  | nil => rfl
  | cons a l ih =>
    simp only [List.filter_cons]
    rcases Nat.lt_trichotomy (loopOf f a) k with h | h | h
    · rw [decide_eq_true (show loopOf f a < k + 1 by omega), decide_eq_true h, decide_eq_false (show ¬ loopOf f a = k by omega)]
      cases tail f a == 0 <;> simp [ih] <;> omega
    · rw [decide_eq_true (show loopOf f a < k + 1 by omega), decide_eq_false (show ¬ loopOf f a < k by omega), decide_eq_true h]
      cases tail f a == 0 <;> simp [ih] <;> omega
    · rw [decide_eq_false (show ¬ loopOf f a < k + 1 by omega), decide_eq_false (show ¬ loopOf f a < k by omega), decide_eq_false (show ¬ loopOf f a = k by omega)]
      cases tail f a == 0 <;> simp [ih]
theorem mem_way_on {f : List Int} (hf : Good f) {k : Nat} (hk : k < f.length) (e : loopOf f k = k) (x : Nat) : x ∈ way f k ↔ x < f.length ∧ tail f x = 0 ∧ loopOf f x = k := by
  have ht := loopOf_self hf hk e
  constructor
  · intro h
    obtain ⟨j, _, rfl⟩ := mem_walk.1 h
    exact ⟨hf.it_lt hk j, by rw [tail_it_eq hf hk, ht]; omega, by rw [loopOf_it hf hk, e]⟩
  · rintro ⟨hx, h0, he⟩
    obtain ⟨a, _, ha⟩ := loopOf_mem hf hx
    rw [he] at ha
    have hp := loop_pos hf hx
    -- k is on x's way; go on round to x
    have hm := Nat.le_mul_of_pos_right a hp
    have hr : it f (a * loop f x - a) k = x := by
      rw [← ha, ← it_add, show a * loop f x - a + a = 0 + a * loop f x by omega, it_rounds hf hx (by omega)]
      rfl
    rw [show way f k = loopL f k by rw [loopL, ht]; rfl]
    exact (mem_loopL hf hk).2 ⟨_, by omega, hr⟩
theorem onK_eq {f : List Int} (hf : Good f) : ∀ k, k ≤ f.length → (onK f k).length = lsum (loopsK f k) (loopsK f k).length
  | 0, _ => by
    have : onK f 0 = [] := by simp [onK]
    rw [this]; rfl
  | k + 1, hk => by
    rw [onK_succ, onK_eq hf k (by omega), loopsK]
    by_cases e : loopOf f k = k
    · rw [if_pos e, lsum_snoc, ints_len]
      congr 1
      refine same_len (List.Nodup.sublist List.filter_sublist List.nodup_range) (rho_nodup hf (by omega)) fun x => ?_
      have := mem_way_on hf (show k < f.length by omega) e x
      rw [this]
      simp
    · rw [if_neg e]
      have : ((List.range f.length).filter fun x => tail f x == 0 && decide (loopOf f x = k)) = [] := by
        rw [List.filter_eq_nil_iff]
        intro x hx
        have hx := List.mem_range.1 hx
        simp only [Bool.and_eq_true, decide_eq_true_eq, not_and]
        intro _ he
        exact e (by rw [← he]; exact loopOf_idem hf hx)
      rw [this]; rfl
theorem on_lsum {f : List Int} (hf : Good f) : onN f = lsum (loopsLL f) (loopsLL f).length := by
  rw [loopsLL_yes hf, ← onK_eq hf _ (Nat.le_refl _), onN, onK]
  congr 1
  refine List.filter_congr fun x hx => ?_
  rw [decide_eq_true (loopOf_lt hf (List.mem_range.1 hx)), Bool.and_true]
theorem onN_le (f : List Int) : onN f ≤ f.length := by
  unfold onN
  exact Nat.le_trans (List.length_filter_le _ _) (by simp)
theorem kinds_sums {f : List Int} (hf : Good f) : (kindsL f).length = f.length ∧ sumZ (kindsL f) f.length = (loopsLL f).length ∧ wsumZ (kindsL f) f.length = onN f := by
  have e : kindsL f = kk f.length (loopsLL f) (loopsLL f).length := if_pos (ok_of hf)
  obtain ⟨h1, h2⟩ := kk_sums f.length (loopsLL f) (fun j hj => loops_long hf hj) _ (Nat.le_refl _)
  rw [e, on_lsum hf]
  exact ⟨kk_len _ _ _, h1, h2⟩
theorem kinds_range {f : List Int} (hf : Good f) (p : Nat) : 0 ≤ nth (kindsL f) p ∧ nth (kindsL f) p ≤ 7 := by
  have e : kindsL f = kk f.length (loopsLL f) (loopsLL f).length := if_pos (ok_of hf)
  have := kk_range f.length (loopsLL f) (loopsLL f).length p
  have := loopsLL_len f hf.1.2
  rw [e]; omega

/-! ### the period is at most 12 -/
def gP (s : Nat) : Nat := [1, 1, 2, 3, 4, 6, 6, 12].getD s 0
theorem gP_all : ∀ s, s < 8 → ∀ p, p < 13 → ∀ l, l < 8 → (!(decide (1 ≤ p) && decide (p ≤ gP s) && decide (1 ≤ l) && decide (s + l ≤ 7)) || decide (Nat.lcm p l ≤ gP (s + l))) = true := by decide +kernel
theorem gP_step (s : Nat) (hs : s ≤ 7) (p : Nat) (hp : p ≤ 12) (h1 : 1 ≤ p) (h2 : p ≤ gP s) (l : Nat) (hl : l ≤ 7) (h3 : 1 ≤ l) (h4 : s + l ≤ 7) : Nat.lcm p l ≤ gP (s + l) := by
  have := gP_all s (by omega) p (by omega) l (by omega)
  simpa [h1, h2, h3, h4] using this
theorem gP_le : ∀ s, s ≤ 7 → gP s ≤ 12 := by decide +kernel
theorem lsum_mono (xss : List (List Int)) (i : Nat) : ∀ j, i ≤ j → lsum xss i ≤ lsum xss j
  | 0, h => by
    obtain rfl : i = 0 := by omega
    exact Nat.le_refl _
  | j + 1, h => by
    by_cases e : i = j + 1
    · subst e; exact Nat.le_refl _
    · have := lsum_mono xss i j (by omega)
      rw [lsum]; omega
theorem per_gP (xss : List (List Int)) (h : ∀ j, j < xss.length → 1 ≤ (gl xss j).length) (h7 : lsum xss xss.length ≤ 7) : ∀ j, j ≤ xss.length → 1 ≤ per xss j ∧ per xss j ≤ gP (lsum xss j)
  | 0, _ => ⟨Nat.le_refl 1, show 1 ≤ gP 0 by decide⟩
  | j + 1, hj => by
    obtain ⟨h1, h2⟩ := per_gP xss h h7 j (by omega)
    have h3 := h j (by omega)
    have h4 := lsum_mono xss (j + 1) _ hj
    have h5 : lsum xss (j + 1) = lsum xss j + (gl xss j).length := rfl
    have h6 := gP_le (lsum xss j) (by omega)
    rw [per_lcm, h5]
    exact ⟨Nat.lcm_pos h1 h3, gP_step _ (by omega) _ (by omega) h1 h2 _ (by omega) h3 (by omega)⟩
theorem perN_12 {f : List Int} (hf : Good f) : perN f ≤ 12 := by
  have h7 := hf.1.2
  have h1 := on_lsum hf
  have h2 := onN_le f
  have h3 := (per_gP (loopsLL f) (fun j hj => (loops_long hf hj).1) (by omega) _ (Nat.le_refl _)).2
  have h4 := gP_le (lsum (loopsLL f) (loopsLL f).length) (by omega)
  unfold perN
  omega

/-! ### turns that go with a turn -/
/-- the numbers from 1 up to c, each times l, multiplied together -/
def facL (l : Int) : Nat → Int
  | 0 => 1
  | c + 1 => facL l c * (((c : Int) + 1) * l)
def twI (xs : List Int) : Nat → Int
  | 0 => 1
  | k + 1 => twI xs k * facL ((k : Int) + 1) (nth xs k).toNat
def turnsV (f : List Int) : Int := if turnedB f = true then twI (kindsL f) f.length else -1
theorem sumZ_nonneg {xs : List Int} (h : ∀ p, 0 ≤ nth xs p) : ∀ k, 0 ≤ sumZ xs k
  | 0 => by simp [sumZ]
  | k + 1 => by have := sumZ_nonneg h k; have := h k; rw [sumZ]; omega
theorem wsumZ_ge {xs : List Int} (h : ∀ p, 0 ≤ nth xs p) (i : Nat) : ∀ k, i < k → ((i : Int) + 1) * nth xs i ≤ wsumZ xs k ∧ 0 ≤ wsumZ xs k
  | 0, hi => by omega
  | k + 1, hi => by
    have key : 0 ≤ wsumZ xs k := by
      have : ∀ k, 0 ≤ wsumZ xs k := by
        intro k
        induction k with
        | zero => simp [wsumZ]
        | succ k ih => rw [wsumZ]; have := Int.mul_nonneg (show 0 ≤ (k : Int) + 1 by omega) (h k); omega
      exact this k
    have hk := Int.mul_nonneg (show 0 ≤ (k : Int) + 1 by omega) (h k)
    rw [wsumZ]
    by_cases e : i = k
    · subst e; omega
    · have := (wsumZ_ge h i k (by omega)).1
      omega
theorem facL_bd (l : Int) (hl : 0 ≤ l) (C : Nat) (hC : (C : Int) * l ≤ 7) (c : Nat) (hc : c ≤ C) : 0 ≤ facL l c ∧ facL l c ≤ ((7 ^ c : Nat) : Int) := by
  induction c with
  | zero => simp [facL]
  | succ c ih =>
    obtain ⟨h1, h2⟩ := ih (by omega)
    have h3 : ((c : Int) + 1) * l ≤ 7 := Int.le_trans (Int.mul_le_mul_of_nonneg_right (by omega) hl) hC
    have h4 : 0 ≤ ((c : Int) + 1) * l := Int.mul_nonneg (by omega) hl
    rw [facL, Nat.pow_succ, Int.natCast_mul]
    refine ⟨Int.mul_nonneg h1 h4, Int.mul_le_mul h2 h3 h4 (by omega)⟩
theorem pow7z {a b : Nat} (h : a ≤ b) : ((7 ^ a : Nat) : Int) ≤ ((7 ^ b : Nat) : Int) := Int.ofNat_le.2 (Nat.pow_le_pow_right (by omega) h)
/-- all that is reckoned on the way stays small -/
theorem tw_bd {xs : List Int} (h : ∀ p, 0 ≤ nth xs p) {n : Nat} (hs : sumZ xs n ≤ 7) (hw : wsumZ xs n ≤ 7) : ∀ k, k ≤ n → 0 ≤ twI xs k ∧ twI xs k ≤ ((7 ^ (sumZ xs k).toNat : Nat) : Int)
  | 0, _ => by simp [twI, sumZ]
  | k + 1, hk => by
    obtain ⟨h1, h2⟩ := tw_bd h hs hw k (by omega)
    have hk0 := h k
    have h3 := (wsumZ_ge h k n (by omega)).1
    have hc : ((nth xs k).toNat : Int) = nth xs k := by omega
    obtain ⟨h4, h5⟩ := facL_bd ((k : Int) + 1) (by omega) (nth xs k).toNat (by rw [hc, Int.mul_comm]; omega) _ (Nat.le_refl _)
    have h6 := sumZ_nonneg h k
    rw [twI]
    refine ⟨Int.mul_nonneg h1 h4, ?_⟩
    rw [sumZ, show (sumZ xs k + nth xs k).toNat = (sumZ xs k).toNat + (nth xs k).toNat by omega, Nat.pow_add, Int.natCast_mul]
    exact Int.mul_le_mul h2 h5 h4 (by omega)
theorem sumZ_mono {xs : List Int} (h : ∀ p, 0 ≤ nth xs p) (i : Nat) : ∀ j, i ≤ j → sumZ xs i ≤ sumZ xs j
  | 0, hi => by
    obtain rfl : i = 0 := by omega
    exact Int.le_refl _
  | j + 1, hi => by
    by_cases e : i = j + 1
    · subst e; exact Int.le_refl _
    · have := sumZ_mono h i j (by omega)
      have := h j
      rw [sumZ]; omega
theorem tw_mid {xs : List Int} (h : ∀ p, 0 ≤ nth xs p) {n : Nat} (hs : sumZ xs n ≤ 7) (hw : wsumZ xs n ≤ 7) {k : Nat} (hk : k < n) {c : Nat} (hc : c ≤ (nth xs k).toNat) :
    0 ≤ twI xs k * facL ((k : Int) + 1) c ∧ twI xs k * facL ((k : Int) + 1) c ≤ 823543 := by
  obtain ⟨h1, h2⟩ := tw_bd h hs hw k (by omega)
  have hk0 := h k
  have h3 := (wsumZ_ge h k n hk).1
  have e : ((nth xs k).toNat : Int) = nth xs k := by omega
  obtain ⟨h4, h5⟩ := facL_bd ((k : Int) + 1) (by omega) (nth xs k).toNat (by rw [e, Int.mul_comm]; omega) c hc
  refine ⟨Int.mul_nonneg h1 h4, ?_⟩
  have h6 := sumZ_nonneg h k
  have h7 := sumZ_mono h (k + 1) n (by omega)
  rw [sumZ] at h7
  have h8 : twI xs k * facL ((k : Int) + 1) c ≤ ((7 ^ (sumZ xs k).toNat : Nat) : Int) * ((7 ^ c : Nat) : Int) := Int.mul_le_mul h2 h5 h4 (by omega)
  rw [← Int.natCast_mul, ← Nat.pow_add] at h8
  exact Int.le_trans h8 (pow7z (b := 7) (by omega))

/-! ### roots of turns -/
/-- of each even length there is an even number of loops -/
def evenB (xs : List Int) : Bool := (List.range xs.length).all fun k => !(k % 2 == 1) || nth xs k % 2 == 0
def rootOkB (f : List Int) : Bool := turnedB f && evenB (kindsL f)
theorem evenB_no {xs : List Int} {k : Nat} (hk : k < xs.length) (h1 : k % 2 = 1) (h2 : nth xs k % 2 ≠ 0) : evenB xs = false := by
  rw [evenB, List.all_eq_false]
  refine ⟨k, List.mem_range.2 hk, ?_⟩
  simp [h1, h2]
theorem evenB_yes {xs : List Int} (h : ∀ k, k < xs.length → k % 2 = 1 → nth xs k % 2 = 0) : evenB xs = true := by
  rw [evenB, List.all_eq_true]
  intro k hk
  have hk := List.mem_range.1 hk
  by_cases h1 : k % 2 = 1
  · simp [h k hk h1]
  · simp [h1]

end Go.Proofs.Ytkbfcaaihellfaa

/- Contracts of chapter 4: powers. -/
namespace Go.Proofs.Ytkbfcaaihellfaa
open Go.RowKit
set_option linter.unusedVariables false



end Go.Proofs.Ytkbfcaaihellfaa

/- Contracts of chapter 6: whether a turn has a root. -/
namespace Go.Proofs.Ytkbfcaaihellfaa
open Go.RowKit
set_option linter.unusedVariables false

theorem rootOk_yes {f : List Int} (h : turnedB f = true) : rootOkB f = evenB (kindsL f) := by rw [rootOkB, h, Bool.true_and]
theorem rootOk_no {f : List Int} (h : turnedB f = false) : rootOkB f = false := by rw [rootOkB, h, Bool.false_and]

set_option maxHeartbeats 400000 in
theorem iTurnRootOk_c (A : Option Addr) (c : Nat) (f : List Int) (w : World) (hR : RdA w A f) (hn : f.length ≤ 1048577) :
    Calls Try.prog 29 #[.slice A f.length c] w fun e w' => e = .returned (.bool (rootOkB f)) ∧ Below w.heap.size w w' := by
  have c1 := iTurnedOf_c A c f w hR hn
  by_cases ht : turnedB f = true
  · have HT := hid (rootOk_yes ht)
    have hf := (turnedB_iff.1 ht).1
    have h7 := hf.1.2
    have HK := hid (fun p => kinds_range hf p)
    have hkl := (kinds_sums hf).1
    rw [ht] at c1
    have C2 := hid (fun W (hb : Below w.heap.size w W) => iLoopKinds_c A c f W (hR.below hb) hn)
    clear ht hR hf
    generalize kindsL f = K at *
    have hk7 : K.length ≤ 7 := by omega
    clear hkl
    go_enter Try.func29, Try.ntmps29
    go_wp2_with fail
    refine c1.mono ?_; rintro e w2 ⟨A2, c2, rfl, -, b2, -⟩
    have k2 := hid (C2.out w2 b2)
    clear C2 c1
    go_wp2_with fail
    refine k2.out.mono ?_; rintro e w3 ⟨A3, c3, rfl, o3, b3⟩
    have b3' := b2.trans (b3.mono b2.size)
    have HR := hid o3.rd
    clear k2 b2 b3 o3
    go_wp2_with fail
    go_loop [18] (fun i => ∃ k : Nat, k ≤ K.length ∧ i = .int .i64 k ∧ Hid (∀ j, j < k → j % 2 = 1 → nth K j % 2 = 0)) (fun i => K.length - (intOf i).toNat)
    case atStart => exact ⟨0, Nat.zero_le _, rfl, hid (fun j hj => by omega)⟩
    case round =>
      obtain ⟨k, hk, rfl, hall⟩ := hrel
      by_cases hlt : k < K.length
      · obtain ⟨ad, rfl, hc⟩ := HR.out k hlt
        obtain ⟨hx0, hx7⟩ := HK.out k
        have HX := hid (show nth K k = nth K k from rfl)
        by_cases hodd : k % 2 = 1
        · have q1 : (((k : Int) + 1) % 2 == 0) = true := by simp; omega
          by_cases hev : nth K k % 2 = 0
          · have q2 : (nth K k % 2 == 0) = true := by simpa using hev
            have q3 : (nth K k % 2 != 0) = false := by simp [hev]
            have HN := hid (show ∀ j, j < k + 1 → j % 2 = 1 → nth K j % 2 = 0 from fun j hj h => by
              rcases Nat.lt_succ_iff_lt_or_eq.1 hj with h' | rfl
              · exact hall.out j h' h
              · exact hev)
            clear hev hall hodd
            generalize nth K k = X at *
            go_wp2_with fail
            go_round
            case rel => exact ⟨k + 1, by omega, by go_num, HN⟩
            case measure => simp [intOf]; omega
          · have q2 : (nth K k % 2 == 0) = false := by simpa using hev
            have q3 : (nth K k % 2 != 0) = true := by simp [hev]
            have HN := hid (evenB_no hlt hodd hev)
            clear hev hall hodd
            generalize nth K k = X at *
            go_wp2_with fail
            go_ret
            exact ⟨ret_bool (by rw [HT.out, HN.out]), b3'⟩
        · have q1 : (((k : Int) + 1) % 2 == 0) = false := by simp; omega
          have HN := hid (show ∀ j, j < k + 1 → j % 2 = 1 → nth K j % 2 = 0 from fun j hj h => by
              rcases Nat.lt_succ_iff_lt_or_eq.1 hj with h' | rfl
              · exact hall.out j h' h
              · exact absurd h hodd)
          clear hall hodd
          generalize nth K k = X at *
          go_wp2_with fail
          go_round
          case rel => exact ⟨k + 1, by omega, by go_num, HN⟩
          case measure => simp [intOf]; omega
      · obtain rfl : k = K.length := by omega
        have HN := hid (evenB_yes hall.out)
        clear hall
        go_wp2_with fail
        go_ret
        exact ⟨ret_bool (by rw [HT.out, HN.out]), b3'⟩
  · have ht' : turnedB f = false := by simpa using ht
    have HT := hid (rootOk_no ht')
    rw [ht'] at c1
    clear ht ht' hR
    go_enter Try.func29, Try.ntmps29
    go_wp2_with fail
    refine c1.mono ?_; rintro e w2 ⟨A2, c2, rfl, -, b2, -⟩
    clear c1
    go_wp2_with fail
    go_ret
    exact ⟨ret_bool HT.out.symm, b2⟩

set_option maxHeartbeats 400000 in
theorem sTurnRootOk_c (A : Option Addr) (c : Nat) (f : List Int) (w : World) (hR : RdA w A f) (hn : f.length ≤ 1048577) :
    Calls Try.prog 30 #[.slice A f.length c] w fun e w' => e = .returned (.bool (rootOkB f)) ∧ Below w.heap.size w w' := by
  have c1 := sTurnedOf_c A c f w hR hn
  have C2 := hid (fun W (hb : Below w.heap.size w W) => sLoopKinds_c A c f W (hR.below hb) hn)
  have HK := hid (show ∀ p, 0 ≤ nth (kindsL f) p ∧ nth (kindsL f) p ≤ 7 from fun p => by
    by_cases hf : mapOkB f = true
    · exact kinds_range (good_of hf) p
    · rw [show kindsL f = [] from if_neg hf]; simp [nth])
  have HT := hid (show rootOkB f = (turnedB f && evenB (kindsL f)) from rfl)
  have hk7 : (kindsL f).length ≤ 7 := by
    by_cases hf : mapOkB f = true
    · rw [(kinds_sums (good_of hf)).1]; exact (good_of hf).1.2
    · rw [show kindsL f = [] from if_neg hf]; simp
  clear hR
  generalize kindsL f = K at *
  generalize turnedB f = tb at *
  go_enter Try.func30, Try.ntmps30
  go_wp2_with fail
  refine c1.mono ?_; rintro e w2 ⟨A2, c2, rfl, -, b2⟩
  have k2 := hid (C2.out w2 b2)
  clear C2 c1
  go_wp2_with fail
  refine k2.out.mono ?_; rintro e w3 ⟨A3, c3, rfl, o3, b3⟩
  have b3' := b2.trans (b3.mono b2.size)
  have HR := hid o3.rd
  clear k2 b2 b3 o3
  go_wp2_with fail
  go_loop [6] (fun i => ∃ k : Nat, 2 * k + 1 ≤ K.length + 1 ∧ i = .int .i64 (2 * (k : Int) + 1) ∧ Hid (∀ j, j < 2 * k + 1 → j % 2 = 1 → nth K j % 2 = 0)) (fun i => K.length + 1 - (intOf i).toNat)
  case atStart => exact ⟨0, by omega, rfl, hid (fun j hj => by omega)⟩
  case round =>
    obtain ⟨k, hk, rfl, hall⟩ := hrel
    by_cases hlt : 2 * k + 1 < K.length
    · obtain ⟨ad, rfl, hc⟩ := HR.out (2 * k + 1) hlt
      obtain ⟨hx0, hx7⟩ := HK.out (2 * k + 1)
      have e1 : 2 * (k : Int) + 1 = ((2 * k + 1 : Nat) : Int) := by omega
      have HE1 := hid e1
      rw [e1]
      have hodd : (2 * k + 1) % 2 = 1 := by omega
      have hk2 : 2 * k + 1 ≤ 7 := by omega
      have HQ := hid (show (((2 * k + 1 : Nat) : Int) + 2) = 2 * ((k + 1 : Nat) : Int) + 1 by omega)
      by_cases hev : nth K (2 * k + 1) % 2 = 0
      · have q2 : (nth K (2 * k + 1) % 2 == 1) = false := by simp [hev]
        have HN := hid (show ∀ j, j < 2 * (k + 1) + 1 → j % 2 = 1 → nth K j % 2 = 0 from fun j hj h => by
          by_cases h' : j = 2 * k + 1
          · subst h'; exact hev
          · exact hall.out j (by omega) h)
        have HM := hid (show 2 * (k + 1) + 1 ≤ K.length + 1 by omega)
        have HM2 := hid (show K.length + 1 - (2 * (k + 1) + 1) < K.length + 1 - (2 * k + 1) by omega)
        clear hev hall hodd e1
        generalize nth K (2 * k + 1) = X at *
        generalize hP : 2 * k + 1 = P at *
        have KP := hid hP
        clear hP
        go_wp2_with fail
        go_round
        case rel => exact ⟨k + 1, HM.out, by rw [HQ.out], HN⟩
        case measure => simp [intOf]; have := KP.out; omega
      · have q2 : (nth K (2 * k + 1) % 2 == 1) = true := by simp; omega
        have HN := hid (evenB_no hlt hodd hev)
        clear hev hall hodd e1
        generalize nth K (2 * k + 1) = X at *
        generalize hP : 2 * k + 1 = P at *
        clear hP
        go_wp2_with fail
        go_ret
        exact ⟨ret_bool (by rw [HT.out, HN.out, Bool.and_false]), b3'⟩
    · have hP : ∀ j, j < K.length → j % 2 = 1 → nth K j % 2 = 0 := fun j hj h => hall.out j (by omega) h
      have HN := hid (evenB_yes hP)
      have e1 : 2 * (k : Int) + 1 = ((2 * k + 1 : Nat) : Int) := by omega
      rw [e1]
      clear hP hall e1
      generalize 2 * k + 1 = P at *
      go_wp2_with fail
      go_ret
      exact ⟨ret_bool (by rw [HT.out, HN.out, Bool.and_true]), b3'⟩

end Go.Proofs.Ytkbfcaaihellfaa

/- RootsOf, alone up to its workers, and behind them. -/
namespace Go.Proofs.Ytkbfcaaihellfaa
open Go.Conc Go.ConcN Go.ConcN.Gen Go.RowKit Go.Conc.Lib Go.ConcR.Gen
open Go.ConcR (KK wgBlock WgAt stA smA rd wr mk Payload Aside2 DC0)
set_option linter.unusedVariables false
set_option linter.unusedSectionVars false

/-- all rows of m numbers below n, in order -/
def rowsAll (n : Nat) : Nat → List (List Int)
  | 0 => [[]]
  | m + 1 => (List.range n).flatMap fun (j : Nat) => (rowsAll n m).map fun r => ((j : Nat) : Int) :: r
def rowsOf (n j : Nat) : List (List Int) := (rowsAll n (n - 1)).map fun r => (j : Int) :: r
def chainB (n : Nat) : List (List Int) → Bool
  | [] => false
  | xs :: t => decide (xs.length = n) && (xs.all fun x => decide (0 ≤ x) && decide (x < n)) && (match t with
    | [] => decide (nextR n xs = none)
    | zs :: _ => decide (nextR n xs = some zs) && chainB n t)
theorem chainB_ok {n : Nat} : ∀ {L : List (List Int)}, chainB n L = true → ChainR n L
  | [], h => by cases h
  | [xs], h => by
    simp only [chainB, Bool.and_eq_true, decide_eq_true_eq, List.all_eq_true] at h
    exact ⟨h.1.1, fun x hx => h.1.2 x hx, h.2⟩
  | xs :: zs :: t, h => by
    rw [chainB] at h
    simp only [Bool.and_eq_true, decide_eq_true_eq, List.all_eq_true] at h
    exact ⟨h.1.1, fun x hx => h.1.2 x hx, h.2.1, chainB_ok h.2.2⟩
theorem rows_chain : ∀ n, n < 5 → ∀ j, j < n → chainB n (rowsOf n j) = true ∧ (rowsOf n j).head? = some ((j : Int) :: List.replicate (n - 1) 0) := by decide +kernel
/-- the maps of so many things that pass a test, in order -/
def thatL (p : List Int → Bool) (n : Nat) : List (List Int) := (rowsFrom p (rowsOf n) 0 n).flatten
theorem rowsAll_len : ∀ n, n < 5 → ∀ m, m < 4 → (rowsAll n m).length ≤ 64 := by decide +kernel
theorem thatL_len {p : List Int → Bool} {n : Nat} (hn : n ≤ 4) : (thatL p n).length ≤ 1000 := by
  have key : ∀ k j, ((rowsFrom p (rowsOf n) j k).flatten).length ≤ 64 * k := by
    intro k
    induction k with
    | zero => intro j; simp [rowsFrom]
    | succ k ih =>
      intro j
      have h1 := ih (j + 1)
      have h2 : ((rowsOf n j).filter p).length ≤ 64 := Nat.le_trans (List.length_filter_le _ _) (by unfold rowsOf; rw [List.length_map]; exact rowsAll_len n (by omega) _ (by omega))
      simp only [rowsFrom, List.flatten_cons, List.length_append]
      omega
  have := key n 0
  unfold thatL
  omega

/-- the roots of a map of at most four things, in order -/
def rootsL (f : List Int) : List (List Int) := thatL (fun g => decide (behindL g g = f)) f.length

theorem madeCells_size (v : Value) (n : Nat) : (madeCells #[v] n).size = n := by simp [size_madeCells]
/-- what is asked of the test of RootsOf -/
theorem tst_roots {Wg C LW N bf : Nat} {A : Option Addr} {c : Nat} {f : List Int} {w0 : World} (h1 : 1 ≤ f.length) (h4 : f.length ≤ 4) (hN : w0.heap.size = N) (hbf : bf < N) (hbox : w0.heap[bf]? = some (.cells #[.slice A f.length c] 22)) (hA : RdA w0 A f) :
    Tst Wg C LW 42 f.length #[.pointer (some ⟨bf, 0, none⟩)] (fun b => b < N) (fun W => ∀ b, b < N → W.heap[b]? = w0.heap[b]?) (fun g => decide (behindL g g = f)) (rowsOf f.length) := by
  refine ⟨fun w w₁ hk hf b hb => (hk b hb).trans (hf b hb), by omega, h1, fun j hj => chainB_ok (rows_chain _ (by omega) j hj).1, fun j hj => (rows_chain _ (by omega) j hj).2, ⟨_, _, Try.func42, by rfl, rfl⟩, fun S' c' k y w ad cc xs hS hx hSe hn hB hF => ?_⟩
  have hcell : ∀ {a : Addr} {v : Value}, w0.cell? a = some v → w.cell? a = some v := fun {a v} h => by
    have := cell_lt h
    rw [← h]
    simp only [World.cell?, hF a.block (by omega)]
  refine (rootsOf1_g (c := cc) (clo_w (P := Try.prog) (ty := wgL.tWg) (Wg := Wg) (C := C) (n := f.length) (LW := LW) (Rw := RwI) (S := S') (c := c') (k := k)) (some ad) xs hx hSe hn hB ⟨bf, 0, none⟩ (hS bf hbf) A f.length c f (hcell (cell_of_heap (k := 0) hbox rfl)) (fun k hk => ?_) (fun ad' e => ?_) (by omega))
  · obtain ⟨ad', e, h⟩ := hA k hk
    exact ⟨ad', e, hcell h⟩
  · obtain ⟨ad2, e2, h2⟩ := hA 0 (by omega)
    rw [e] at e2
    cases e2
    have := cell_lt h2
    rw [block_of_add] at this
    exact hS _ (by omega)
end Go.Proofs.Ytkbfcaaihellfaa

/- Plain law: every list without a repeat, of small entries, by one search; roots of short maps. No program in sight. -/
namespace Go.Proofs.Ytkbfcaaihellfaa
set_option linter.unusedVariables false

/-- P holds of every list that grows xs by m entries below n, none met twice -/
def chkAll (P : List Int → Bool) (n : Nat) : Nat → List Int → Bool
  | 0, xs => P xs
  | m + 1, xs => (List.range n).all fun x => xs.contains (x : Int) || chkAll P n m (xs ++ [(x : Int)])
theorem chkAll_ok {P : List Int → Bool} {n : Nat} : ∀ (m : Nat) (xs ys : List Int), chkAll P n m xs = true → ys.length = m → (∀ y ∈ ys, 0 ≤ y ∧ y < n) → (xs ++ ys).Nodup → P (xs ++ ys) = true
  | 0, xs, ys, h, hl, _, _ => by
    obtain rfl := List.eq_nil_of_length_eq_zero hl
    rw [List.append_nil]
    exact h
  | m + 1, xs, [], h, hl, _, _ => by cases hl
  | m + 1, xs, y :: ys, h, hl, hb, hn => by
    rw [chkAll, List.all_eq_true] at h
    have hy := hb y (List.mem_cons_self ..)
    have hy2 : ((y.toNat : Nat) : Int) = y := by omega
    have h2 := h y.toNat (List.mem_range.2 (by omega))
    rw [hy2, Bool.or_eq_true] at h2
    rcases h2 with h2 | h2
    · exfalso
      rw [List.contains_iff_mem] at h2
      exact (List.nodup_append.1 hn).2.2 y h2 y (List.mem_cons_self ..) rfl
    · rw [List.append_cons]
      refine chkAll_ok m _ _ h2 (by simpa using hl) (fun z hz => hb z (List.mem_cons_of_mem _ hz)) ?_
      rw [← List.append_cons]
      exact hn
theorem mem_nth {xs : List Int} {y : Int} (h : y ∈ xs) : ∃ k, k < xs.length ∧ nth xs k = y := by
  obtain ⟨k, hk, e⟩ := List.getElem_of_mem h
  exact ⟨k, hk, by simp [nth, hk, e]⟩
theorem turned_nodup {f : List Int} (h : turnedB f = true) : f.Nodup := by
  obtain ⟨hg, hi⟩ := turnedB_iff.1 h
  rw [List.nodup_iff_pairwise_ne, List.pairwise_iff_getElem]
  intro i j hi' hj' hij e
  have ei : nth f i = f[i] := by simp [nth, hi']
  have ej : nth f j = f[j] := by simp [nth, hj']
  have a := hg.nth_ap hi'
  have b := hg.nth_ap hj'
  have : ap f i = ap f j := by
    have : nth f i = nth f j := by rw [ei, ej, e]
    omega
  have := hi i j hi' hj' this
  omega
theorem turned_all {P : List Int → Bool} {f : List Int} (h : turnedB f = true) (hc : chkAll P f.length f.length [] = true) : P f = true := by
  have := chkAll_ok f.length [] f hc rfl (fun y hy => by
    obtain ⟨k, hk, e⟩ := mem_nth hy
    have := (turnedB_iff.1 h).1.2 k hk
    omega) (by simpa using turned_nodup h)
  simpa using this

theorem roots_chk : ∀ n, n < 5 → chkAll (fun f => rootOkB f == decide (0 < (rootsL f).length)) n n [] = true := by decide +kernel
theorem roots_iff {f : List Int} (h : turnedB f = true) (h4 : f.length ≤ 4) : rootOkB f = decide (0 < (rootsL f).length) :=
  eq_of_beq (turned_all (P := fun f => rootOkB f == decide (0 < (rootsL f).length)) h (roots_chk _ (by omega)))
theorem even_chk : ∀ n, n < 7 → chkAll (fun f => evenB (kindsL (behindL f f))) n n [] = true := by decide +kernel
end Go.Proofs.Ytkbfcaaihellfaa

/- Plain law: the number of turns that go with a turn divides that of all turns. No program in sight. -/
namespace Go.Proofs.Ytkbfcaaihellfaa
set_option linter.unusedVariables false

def facZ : Nat → Int
  | 0 => 1
  | n + 1 => facZ n * ((n : Int) + 1)
def divB (n : Nat) (f : List Int) : Bool := decide (0 < twI (kindsL f) n ∧ (facZ n).tmod (twI (kindsL f) n) = 0)
theorem div_chk : ∀ n, n < 7 → chkAll (divB n) n n [] = true := by decide +kernel
set_option maxHeartbeats 20000000 in
theorem div_chk7_0 : chkAll (divB 7) 7 6 [0] = true := by decide +kernel
set_option maxHeartbeats 20000000 in
theorem div_chk7_1 : chkAll (divB 7) 7 6 [1] = true := by decide +kernel
set_option maxHeartbeats 20000000 in
theorem div_chk7_2 : chkAll (divB 7) 7 6 [2] = true := by decide +kernel
set_option maxHeartbeats 20000000 in
theorem div_chk7_3 : chkAll (divB 7) 7 6 [3] = true := by decide +kernel
set_option maxHeartbeats 20000000 in
theorem div_chk7_4 : chkAll (divB 7) 7 6 [4] = true := by decide +kernel
set_option maxHeartbeats 20000000 in
theorem div_chk7_5 : chkAll (divB 7) 7 6 [5] = true := by decide +kernel
set_option maxHeartbeats 20000000 in
theorem div_chk7_6 : chkAll (divB 7) 7 6 [6] = true := by decide +kernel
theorem div_chk7 : ∀ x, x < 7 → chkAll (divB 7) 7 6 [((x : Nat) : Int)] = true
  | 0, _ => div_chk7_0
  | 1, _ => div_chk7_1
  | 2, _ => div_chk7_2
  | 3, _ => div_chk7_3
  | 4, _ => div_chk7_4
  | 5, _ => div_chk7_5
  | 6, _ => div_chk7_6
  | x + 7, h => by omega
theorem div_all : ∀ n, n < 8 → chkAll (divB n) n n [] = true := by
  intro n hn
  by_cases h : n < 7
  · exact div_chk n h
  · have : n = 7 := by omega
    subst this
    rw [chkAll, List.all_eq_true]
    intro x hx
    rw [Bool.or_eq_true]
    exact Or.inr (div_chk7 x (List.mem_range.1 hx))
theorem turns_div {f : List Int} (h : turnedB f = true) : 0 < turnsV f ∧ (facZ f.length).tmod (turnsV f) = 0 := by
  have h7 : f.length ≤ 7 := (turnedB_iff.1 h).1.1.2
  have := turned_all (P := divB f.length) h (div_all _ (by omega))
  unfold turnsV
  rw [if_pos h]
  exact of_decide_eq_true this
end Go.Proofs.Ytkbfcaaihellfaa
