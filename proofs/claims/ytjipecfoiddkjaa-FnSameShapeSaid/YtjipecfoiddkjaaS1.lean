/- Plain law: powers of a map, its index and period. No program in sight. -/
import Derived.Test.YtjipecfoiddkjaaR4
namespace Go.Proofs.Ytjipecfoiddkjaa
set_option linter.unusedVariables false

/-- the map put behind itself m times, as a row -/
def pw (f : List Int) (m : Nat) : List Int := mk f.length (it f m)
def powL (f : List Int) (n : Int) : List Int := if mapOkB f = true ∧ 0 ≤ n ∧ n ≤ 1000000 then pw f n.toNat else []
theorem pw_len (f : List Int) (m : Nat) : (pw f m).length = f.length := mk_len _ _
theorem good_pw {f : List Int} (hf : Good f) (m : Nat) : Good (pw f m) := good_mk hf.1 fun k hk => hf.it_lt hk m
theorem ap_pw {f : List Int} {k : Nat} (hk : k < f.length) (m : Nat) : ap (pw f m) k = it f m k := ap_mk hk
theorem behind_pw {f : List Int} (hf : Good f) (a b : Nat) : behindL (pw f a) (pw f b) = pw f (b + a) := by
  rw [behindL_good (good_pw hf a) (good_pw hf b) (by rw [pw_len, pw_len]), pw_len]
  show _ = mk f.length (it f (b + a))
  refine mk_congr fun k hk => ?_
  rw [ap_pw hk, ap_pw (hf.it_lt hk a), it_add]
theorem pw_one {f : List Int} (hf : Good f) : pw f 1 = f := (eq_mk hf).symm
theorem pw_zero {f : List Int} (hf : Good f) : pw f 0 = sameL f.length := by
  have h := hf.1
  rw [sameL, if_pos (by omega), Int.toNat_natCast]
  rfl
theorem powL_yes {f : List Int} (hf : Good f) {m : Nat} (hm : m ≤ 1000000) : powL f m = pw f m := by
  rw [powL, if_pos ⟨ok_of hf, by omega, by omega⟩, Int.toNat_natCast]
theorem powL_no {f : List Int} {n : Int} (h : ¬ (mapOkB f = true ∧ 0 ≤ n ∧ n ≤ 1000000)) : powL f n = [] := if_neg h
theorem powL_len (f : List Int) (n : Int) (h : f.length ≤ 1048577) : (powL f n).length ≤ 1048577 := by
  unfold powL
  split
  · rw [pw_len]; exact h
  · simp
theorem pw_ne {f : List Int} (hf : Good f) (m : Nat) : pw f m ≠ [] := fun e => by
  have := pw_len f m
  rw [e] at this
  have h := hf.1
  simp at this
  omega
theorem pw_eq_iff {f : List Int} (hf : Good f) {a b : Nat} (hab : a < b) : pw f a = pw f b ↔ ∀ t, t < f.length → tail f t ≤ a ∧ loop f t ∣ b - a := by
  rw [pw, pw, mk_eq_iff]
  exact ⟨fun h t ht => (it_eq_iff hf ht hab).1 (h t ht), fun h t ht => (it_eq_iff hf ht hab).2 (h t ht)⟩
theorem idem_pw {f : List Int} (hf : Good f) {m : Nat} (hm : 0 < m) : idemB (pw f m) = true ↔ ∀ t, t < f.length → tail f t ≤ m ∧ loop f t ∣ m := by
  unfold idemB
  rw [ok_of (good_pw hf m), Bool.true_and, decide_eq_true_eq, behind_pw hf, eq_comm, pw_eq_iff hf (by omega), show m + m - m = m by omega]

/-! ### the period -/
theorem per_lcm (xss : List (List Int)) (j : Nat) : per xss (j + 1) = Nat.lcm (per xss j) (gl xss j).length := by
  rw [per, Nat.lcm, Nat.div_mul_right_comm (Nat.gcd_dvd_left _ _)]
theorem per_dvd_iff (xss : List (List Int)) (m : Nat) : ∀ j, per xss j ∣ m ↔ ∀ i, i < j → (gl xss i).length ∣ m
  | 0 => by simp [per]
  | j + 1 => by
    rw [per_lcm, Nat.lcm_dvd_iff, per_dvd_iff xss m j]
    constructor
    · rintro ⟨h1, h2⟩ i hi
      rcases Nat.lt_succ_iff_lt_or_eq.1 hi with h | rfl
      · exact h1 i h
      · exact h2
    · intro h
      exact ⟨fun i hi => h i (by omega), h j (by omega)⟩
theorem loopsK_has (f : List Int) : ∀ k t, t < k → loopOf f t = t → ∃ j, j < (loopsK f k).length ∧ gl (loopsK f k) j = ints (way f t)
  | 0, t, h, _ => by omega
  | k + 1, t, h, ht => by
    rw [loopsK]
    by_cases e : t = k
    · subst e
      rw [if_pos ht]
      exact ⟨(loopsK f t).length, by simp, gl_app_end _ _⟩
    · obtain ⟨j, h1, h2⟩ := loopsK_has f k t (by omega) ht
      split
      · exact ⟨j, by rw [List.length_append]; omega, by rw [gl_app_lt h1]; exact h2⟩
      · exact ⟨j, h1, h2⟩
theorem rho_loop {f : List Int} (hf : Good f) {t : Nat} (ht : t < f.length) (h : tail f t = 0) : rho f t = loop f t := by
  rw [rho_eq hf ht, h, Nat.zero_add]
theorem loopOf_loop {f : List Int} (hf : Good f) {t : Nat} (ht : t < f.length) : loop f (loopOf f t) = loop f t := by
  obtain ⟨a, _, e⟩ := loopOf_mem hf ht
  rw [← e, loop_it_eq hf ht]
/-- the period, as a number -/
def perN (f : List Int) : Nat := per (loopsLL f) (loopsLL f).length
theorem loopsLL_yes {f : List Int} (hf : Good f) : loopsLL f = loopsK f f.length := if_pos (ok_of hf)
theorem perN_dvd {f : List Int} (hf : Good f) (m : Nat) : perN f ∣ m ↔ ∀ t, t < f.length → loop f t ∣ m := by
  rw [perN, per_dvd_iff, loopsLL_yes hf]
  constructor
  · intro h t ht
    obtain ⟨j, hj, e⟩ := loopsK_has f f.length (loopOf f t) (loopOf_lt hf ht) (loopOf_idem hf ht)
    have h1 := h j hj
    rwa [e, way_len, rho_loop hf (loopOf_lt hf ht) (loopOf_tail hf ht), loopOf_loop hf ht] at h1
  · intro h j hj
    obtain ⟨t, ht, e, hw⟩ := loopsK_mem f _ j hj
    rw [hw, way_len, rho_loop hf ht (loopOf_self hf ht e)]
    exact h t ht
theorem perN_bd {f : List Int} (hf : Good f) : 1 ≤ perN f ∧ perN f ≤ 823543 := by
  have h7 := hf.1.2
  obtain ⟨h1, h2⟩ := per_bound (loopsLL f) (fun j hj => ⟨(loops_long hf hj).1, by have := (loops_long hf hj).2; omega⟩) _ (Nat.le_refl _)
  exact ⟨h1, Nat.le_trans h2 (pow7 _ (loopsLL_len f h7))⟩
theorem periodV_yes {f : List Int} (hf : Good f) : periodV f = (perN f : Int) := if_pos (ok_of hf)

/-! ### the index -/
def idxN (f : List Int) : Nat := (indexV f).toNat
theorem idxN_spec {f : List Int} (hf : Good f) : indexV f = (idxN f : Int) ∧ 1 ≤ idxN f ∧ idxN f ≤ 7 ∧ (∀ m : Nat, 1 ≤ m → (idxN f ≤ m ↔ ∀ t, t < f.length → tail f t ≤ m)) ∧ (1 < idxN f → ∃ t, t < f.length ∧ tail f t = idxN f) ∧ idxN f < max f.length 2 := by
  have h1 := hf.1
  have hh : highV f = hiT f f.length := if_pos (ok_of hf)
  have hi : indexV f = if highV f ≤ 1 then 1 else highV f := if_pos (ok_of hf)
  obtain ⟨j, hj, e⟩ := hiT_mem f f.length (by omega)
  have hhi := hiT_high hf (Nat.le_refl f.length)
  have key : indexV f = (idxN f : Int) ∧ 1 ≤ idxN f ∧ ((idxN f : Int) = 1 ∧ highV f ≤ 1 ∨ (idxN f : Int) = highV f ∧ 1 < highV f) := by
    unfold idxN
    rw [hi]
    split <;> omega
  obtain ⟨k1, k2, k3⟩ := key
  refine ⟨k1, k2, by omega, fun m hm => ⟨fun h t ht => ?_, fun h => ?_⟩, fun h => ⟨j, hj, by omega⟩, by omega⟩
  · have := hiT_le f f.length t ht
    omega
  · have := h j hj
    omega

/-- A POWER IS IDEMPOTENT EXACTLY IF ITS NUMBER IS NO LESS THAN THE INDEX AND A MULTIPLE OF THE PERIOD -/
theorem idem_iff {f : List Int} (hf : Good f) {m : Nat} (hm : 0 < m) : idemB (pw f m) = true ↔ idxN f ≤ m ∧ perN f ∣ m := by
  rw [idem_pw hf hm, (idxN_spec hf).2.2.2.1 m hm, perN_dvd hf]
  exact ⟨fun h => ⟨fun t ht => (h t ht).1, fun t ht => (h t ht).2⟩, fun h t ht => ⟨h.1 t ht, h.2 t ht⟩⟩
theorem pw_eq_iff' {f : List Int} (hf : Good f) {a b : Nat} (ha : 1 ≤ a) (hab : a < b) : pw f a = pw f b ↔ idxN f ≤ a ∧ perN f ∣ b - a := by
  rw [pw_eq_iff hf hab, (idxN_spec hf).2.2.2.1 a ha, perN_dvd hf]
  exact ⟨fun h => ⟨fun t ht => (h t ht).1, fun t ht => (h t ht).2⟩, fun h t ht => ⟨h.1 t ht, h.2 t ht⟩⟩
/-- the least multiple of the period from the index on -/
def setN (f : List Int) : Nat := (idxN f + perN f - 1) / perN f * perN f
theorem setN_spec {f : List Int} (hf : Good f) : idxN f ≤ setN f ∧ setN f < idxN f + perN f ∧ perN f ∣ setN f ∧ 1 ≤ setN f ∧ setN f ≤ 823549 ∧ ∀ m, idxN f ≤ m → perN f ∣ m → setN f ≤ m := by
  have hp := perN_bd hf
  have hi := idxN_spec hf
  have d := Nat.div_add_mod (idxN f + perN f - 1) (perN f)
  have m := Nat.mod_lt (idxN f + perN f - 1) hp.1
  have e : setN f = perN f * ((idxN f + perN f - 1) / perN f) := by rw [setN, Nat.mul_comm]
  have h1 : idxN f ≤ setN f := by rw [e]; omega
  have h2 : setN f < idxN f + perN f := by rw [e]; omega
  refine ⟨h1, h2, ⟨_, e⟩, by omega, by omega, fun k hk ⟨q, hq⟩ => ?_⟩
  rw [hq, e]
  refine Nat.mul_le_mul_left _ ?_
  apply Nat.le_of_not_lt
  intro hlt
  have h3 : perN f * (q + 1) ≤ perN f * ((idxN f + perN f - 1) / perN f) := Nat.mul_le_mul_left _ hlt
  rw [Nat.mul_succ] at h3
  rw [e] at h2
  omega

/-! ### maps that turn round -/
theorem turned_high {f : List Int} (hf : Good f) : turnedB f = true ↔ highV f ≤ 0 := by
  have hh : highV f = hiT f f.length := if_pos (ok_of hf)
  have h1 := hf.1
  rw [turnedB_iff, hh]
  obtain ⟨j, hj, e⟩ := hiT_mem f f.length (by omega)
  constructor
  · rintro ⟨_, hi⟩
    have := (inj_iff_tails hf).1 hi j hj
    omega
  · intro h
    refine ⟨hf, (inj_iff_tails hf).2 fun t ht => ?_⟩
    have := hiT_le f f.length t ht
    omega
def orderV (f : List Int) : Int := if turnedB f = true then periodV f else -1

end Go.Proofs.Ytjipecfoiddkjaa
