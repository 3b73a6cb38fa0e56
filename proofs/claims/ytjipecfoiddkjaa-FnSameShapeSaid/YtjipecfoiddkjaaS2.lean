/- Plain law: loops counted; the period is at most 12; turns that go with a turn. No program in sight. -/
import Derived.Test.YtjipecfoiddkjaaS1
namespace Go.Proofs.Ytjipecfoiddkjaa
set_option linter.unusedVariables false

def sumZ (xs : List Int) : Nat → Int
  | 0 => 0
  | k + 1 => sumZ xs k + nth xs k
def wsumZ (xs : List Int) : Nat → Int
  | 0 => 0
  | k + 1 => wsumZ xs k + ((k : Int) + 1) * nth xs k
theorem sumZ_set (xs : List Int) (i : Nat) (hi : i < xs.length) (z : Int) : ∀ n, sumZ (xs.set i z) n = sumZ xs n + if i < n then z - nth xs i else 0
  | 0 => by simp [sumZ]
  | n + 1 => by
    rw [sumZ, sumZ, sumZ_set xs i hi z n, nth_set]
    by_cases h1 : i < n
    · rw [if_pos h1, if_neg (fun h => by omega), if_pos (by omega)]; omega
    · by_cases h2 : i = n
      · subst h2; rw [if_neg h1, if_pos ⟨rfl, hi⟩, if_pos (by omega)]; omega
      · rw [if_neg h1, if_neg (fun h => h2 h.1), if_neg (by omega)]; omega
theorem wsumZ_set (xs : List Int) (i : Nat) (hi : i < xs.length) (z : Int) : ∀ n, wsumZ (xs.set i z) n = wsumZ xs n + if i < n then ((i : Int) + 1) * (z - nth xs i) else 0
  | 0 => by simp [wsumZ]
  | n + 1 => by
    rw [wsumZ, wsumZ, wsumZ_set xs i hi z n, nth_set]
    by_cases h1 : i < n
    · rw [if_pos h1, if_neg (fun h => by omega), if_pos (by omega)]; omega
    · by_cases h2 : i = n
      · subst h2
        rw [if_neg h1, if_pos ⟨rfl, hi⟩, if_pos (by omega), Int.mul_sub]; omega
      · rw [if_neg h1, if_neg (fun h => h2 h.1), if_neg (by omega)]; omega
theorem sumZ_rep (n k : Nat) : sumZ (List.replicate n 0) k = 0 := by
  induction k with
  | zero => rfl
  | succ k ih =>
    have : nth (List.replicate n (0 : Int)) k = 0 := by by_cases h : k < n <;> simp [nth, h]
    rw [sumZ, ih, this]; rfl
theorem wsumZ_rep (n k : Nat) : wsumZ (List.replicate n 0) k = 0 := by
  induction k with
  | zero => rfl
  | succ k ih =>
    have : nth (List.replicate n (0 : Int)) k = 0 := by by_cases h : k < n <;> simp [nth, h]
    rw [wsumZ, ih, this]; simp
/-- how many things the first j rows have together -/
def lsum (xss : List (List Int)) : Nat → Nat
  | 0 => 0
  | j + 1 => lsum xss j + (gl xss j).length
theorem kk_sums (n : Nat) (xss : List (List Int)) (h : ∀ j, j < xss.length → 1 ≤ (gl xss j).length ∧ (gl xss j).length ≤ n) : ∀ j, j ≤ xss.length → sumZ (kk n xss j) n = j ∧ wsumZ (kk n xss j) n = lsum xss j
  | 0, _ => by rw [kk, sumZ_rep, wsumZ_rep]; exact ⟨rfl, rfl⟩
  | j + 1, hj => by
    obtain ⟨h1, h2⟩ := kk_sums n xss h j (by omega)
    obtain ⟨h3, h4⟩ := h j (by omega)
    have hl : (gl xss j).length - 1 < (kk n xss j).length := by rw [kk_len]; omega
    rw [kk, sumZ_set _ _ hl, wsumZ_set _ _ hl, h1, h2, if_pos (by omega), if_pos (by omega), lsum]
    refine ⟨by omega, ?_⟩
    rw [show nth (kk n xss j) ((gl xss j).length - 1) + 1 - nth (kk n xss j) ((gl xss j).length - 1) = 1 by omega]
    omega
theorem lsum_app (xss : List (List Int)) (z : List Int) : ∀ j, j ≤ xss.length → lsum (xss ++ [z]) j = lsum xss j
  | 0, _ => rfl
  | j + 1, h => by rw [lsum, lsum, lsum_app xss z j (by omega), gl_app_lt (by omega)]
theorem lsum_snoc (xss : List (List Int)) (z : List Int) : lsum (xss ++ [z]) (xss ++ [z]).length = lsum xss xss.length + z.length := by
  rw [List.length_append, show xss.length + [z].length = xss.length + 1 from rfl, lsum, lsum_app _ _ _ (Nat.le_refl _), gl_app_end]

/-! ### things on loops -/
theorem same_len {l r : List Nat} (hl : l.Nodup) (hr : r.Nodup) (h : ∀ x, x ∈ l ↔ x ∈ r) : l.length = r.length := ((List.perm_ext_iff_of_nodup hl hr).2 h).length_eq
/-- how many things are on loops whose least thing is less than k -/
def onK (f : List Int) (k : Nat) : List Nat := (List.range f.length).filter fun x => tail f x == 0 && decide (loopOf f x < k)
def onN (f : List Int) : Nat := ((List.range f.length).filter fun x => tail f x == 0).length
theorem onK_succ (f : List Int) (k : Nat) : (onK f (k + 1)).length = (onK f k).length + ((List.range f.length).filter fun x => tail f x == 0 && decide (loopOf f x = k)).length := by
  unfold onK
  generalize List.range f.length = l
  induction l with
  | nil => rfl
  | cons a l ih =>
    simp only [List.filter_cons]
    rcases Nat.lt_trichotomy (loopOf f a) k with h | h | h
    · rw [decide_eq_true (show loopOf f a < k + 1 by omega), decide_eq_true h, decide_eq_false (show ¬ loopOf f a = k by omega)]
      cases tail f a == 0 <;> simp [ih] <;> omega
    · rw [decide_eq_true (show loopOf f a < k + 1 by omega), decide_eq_false (show ¬ loopOf f a < k by omega), decide_eq_true h]
      cases tail f a == 0 <;> simp [ih] <;> omega
    · rw [decide_eq_false (show ¬ loopOf f a < k + 1 by omega), decide_eq_false (show ¬ loopOf f a < k by omega), decide_eq_false (show ¬ loopOf f a = k by omega)]
      cases tail f a == 0 <;> simp [ih]
theorem mem_way_on {f : List Int} (hf : Good f) {k : Nat} (hk : k < f.length) (e : loopOf f k = k) (x : Nat) : x ∈ way f k ↔ x < f.length ∧ tail f x = 0 ∧ loopOf f x = k := by
  have ht := loopOf_self hf hk e
  constructor
  · intro h
    obtain ⟨j, _, rfl⟩ := mem_walk.1 h
    exact ⟨hf.it_lt hk j, by rw [tail_it_eq hf hk, ht]; omega, by rw [loopOf_it hf hk, e]⟩
  · rintro ⟨hx, h0, he⟩
    obtain ⟨a, _, ha⟩ := loopOf_mem hf hx
    rw [he] at ha
    have hp := loop_pos hf hx
    -- k is on x's way; go on round to x
    have hm := Nat.le_mul_of_pos_right a hp
    have hr : it f (a * loop f x - a) k = x := by
      rw [← ha, ← it_add, show a * loop f x - a + a = 0 + a * loop f x by omega, it_rounds hf hx (by omega)]
      rfl
    rw [show way f k = loopL f k by rw [loopL, ht]; rfl]
    exact (mem_loopL hf hk).2 ⟨_, by omega, hr⟩
theorem onK_eq {f : List Int} (hf : Good f) : ∀ k, k ≤ f.length → (onK f k).length = lsum (loopsK f k) (loopsK f k).length
  | 0, _ => by
    have : onK f 0 = [] := by simp [onK]
    rw [this]; rfl
  | k + 1, hk => by
    rw [onK_succ, onK_eq hf k (by omega), loopsK]
    by_cases e : loopOf f k = k
    · rw [if_pos e, lsum_snoc, ints_len]
      congr 1
      refine same_len (List.Nodup.sublist List.filter_sublist List.nodup_range) (rho_nodup hf (by omega)) fun x => ?_
      have := mem_way_on hf (show k < f.length by omega) e x
      rw [this]
      simp
    · rw [if_neg e]
      have : ((List.range f.length).filter fun x => tail f x == 0 && decide (loopOf f x = k)) = [] := by
        rw [List.filter_eq_nil_iff]
        intro x hx
        have hx := List.mem_range.1 hx
        simp only [Bool.and_eq_true, decide_eq_true_eq, not_and]
        intro _ he
        exact e (by rw [← he]; exact loopOf_idem hf hx)
      rw [this]; rfl
theorem on_lsum {f : List Int} (hf : Good f) : onN f = lsum (loopsLL f) (loopsLL f).length := by
  rw [loopsLL_yes hf, ← onK_eq hf _ (Nat.le_refl _), onN, onK]
  congr 1
  refine List.filter_congr fun x hx => ?_
  rw [decide_eq_true (loopOf_lt hf (List.mem_range.1 hx)), Bool.and_true]
theorem onN_le (f : List Int) : onN f ≤ f.length := by
  unfold onN
  exact Nat.le_trans (List.length_filter_le _ _) (by simp)
theorem kinds_sums {f : List Int} (hf : Good f) : (kindsL f).length = f.length ∧ sumZ (kindsL f) f.length = (loopsLL f).length ∧ wsumZ (kindsL f) f.length = onN f := by
  have e : kindsL f = kk f.length (loopsLL f) (loopsLL f).length := if_pos (ok_of hf)
  obtain ⟨h1, h2⟩ := kk_sums f.length (loopsLL f) (fun j hj => loops_long hf hj) _ (Nat.le_refl _)
  rw [e, on_lsum hf]
  exact ⟨kk_len _ _ _, h1, h2⟩
theorem kinds_range {f : List Int} (hf : Good f) (p : Nat) : 0 ≤ nth (kindsL f) p ∧ nth (kindsL f) p ≤ 7 := by
  have e : kindsL f = kk f.length (loopsLL f) (loopsLL f).length := if_pos (ok_of hf)
  have := kk_range f.length (loopsLL f) (loopsLL f).length p
  have := loopsLL_len f hf.1.2
  rw [e]; omega

/-! ### the period is at most 12 -/
def gP (s : Nat) : Nat := [1, 1, 2, 3, 4, 6, 6, 12].getD s 0
theorem gP_all : ∀ s, s < 8 → ∀ p, p < 13 → ∀ l, l < 8 → (!(decide (1 ≤ p) && decide (p ≤ gP s) && decide (1 ≤ l) && decide (s + l ≤ 7)) || decide (Nat.lcm p l ≤ gP (s + l))) = true := by decide +kernel
theorem gP_step (s : Nat) (hs : s ≤ 7) (p : Nat) (hp : p ≤ 12) (h1 : 1 ≤ p) (h2 : p ≤ gP s) (l : Nat) (hl : l ≤ 7) (h3 : 1 ≤ l) (h4 : s + l ≤ 7) : Nat.lcm p l ≤ gP (s + l) := by
  have := gP_all s (by omega) p (by omega) l (by omega)
  simpa [h1, h2, h3, h4] using this
theorem gP_le : ∀ s, s ≤ 7 → gP s ≤ 12 := by decide +kernel
theorem lsum_mono (xss : List (List Int)) (i : Nat) : ∀ j, i ≤ j → lsum xss i ≤ lsum xss j
  | 0, h => by
    obtain rfl : i = 0 := by omega
    exact Nat.le_refl _
  | j + 1, h => by
    by_cases e : i = j + 1
    · subst e; exact Nat.le_refl _
    · have := lsum_mono xss i j (by omega)
      rw [lsum]; omega
theorem per_gP (xss : List (List Int)) (h : ∀ j, j < xss.length → 1 ≤ (gl xss j).length) (h7 : lsum xss xss.length ≤ 7) : ∀ j, j ≤ xss.length → 1 ≤ per xss j ∧ per xss j ≤ gP (lsum xss j)
  | 0, _ => ⟨Nat.le_refl 1, show 1 ≤ gP 0 by decide⟩
  | j + 1, hj => by
    obtain ⟨h1, h2⟩ := per_gP xss h h7 j (by omega)
    have h3 := h j (by omega)
    have h4 := lsum_mono xss (j + 1) _ hj
    have h5 : lsum xss (j + 1) = lsum xss j + (gl xss j).length := rfl
    have h6 := gP_le (lsum xss j) (by omega)
    rw [per_lcm, h5]
    exact ⟨Nat.lcm_pos h1 h3, gP_step _ (by omega) _ (by omega) h1 h2 _ (by omega) h3 (by omega)⟩
theorem perN_12 {f : List Int} (hf : Good f) : perN f ≤ 12 := by
  have h7 := hf.1.2
  have h1 := on_lsum hf
  have h2 := onN_le f
  have h3 := (per_gP (loopsLL f) (fun j hj => (loops_long hf hj).1) (by omega) _ (Nat.le_refl _)).2
  have h4 := gP_le (lsum (loopsLL f) (loopsLL f).length) (by omega)
  unfold perN
  omega

/-! ### turns that go with a turn -/
/-- the numbers from 1 up to c, each times l, multiplied together -/
def facL (l : Int) : Nat → Int
  | 0 => 1
  | c + 1 => facL l c * (((c : Int) + 1) * l)
def twI (xs : List Int) : Nat → Int
  | 0 => 1
  | k + 1 => twI xs k * facL ((k : Int) + 1) (nth xs k).toNat
def turnsV (f : List Int) : Int := if turnedB f = true then twI (kindsL f) f.length else -1
theorem sumZ_nonneg {xs : List Int} (h : ∀ p, 0 ≤ nth xs p) : ∀ k, 0 ≤ sumZ xs k
  | 0 => by simp [sumZ]
  | k + 1 => by have := sumZ_nonneg h k; have := h k; rw [sumZ]; omega
theorem wsumZ_ge {xs : List Int} (h : ∀ p, 0 ≤ nth xs p) (i : Nat) : ∀ k, i < k → ((i : Int) + 1) * nth xs i ≤ wsumZ xs k ∧ 0 ≤ wsumZ xs k
  | 0, hi => by omega
  | k + 1, hi => by
    have key : 0 ≤ wsumZ xs k := by
      have : ∀ k, 0 ≤ wsumZ xs k := by
        intro k
        induction k with
        | zero => simp [wsumZ]
        | succ k ih => rw [wsumZ]; have := Int.mul_nonneg (show 0 ≤ (k : Int) + 1 by omega) (h k); omega
      exact this k
    have hk := Int.mul_nonneg (show 0 ≤ (k : Int) + 1 by omega) (h k)
    rw [wsumZ]
    by_cases e : i = k
    · subst e; omega
    · have := (wsumZ_ge h i k (by omega)).1
      omega
theorem facL_bd (l : Int) (hl : 0 ≤ l) (C : Nat) (hC : (C : Int) * l ≤ 7) (c : Nat) (hc : c ≤ C) : 0 ≤ facL l c ∧ facL l c ≤ ((7 ^ c : Nat) : Int) := by
  induction c with
  | zero => simp [facL]
  | succ c ih =>
    obtain ⟨h1, h2⟩ := ih (by omega)
    have h3 : ((c : Int) + 1) * l ≤ 7 := Int.le_trans (Int.mul_le_mul_of_nonneg_right (by omega) hl) hC
    have h4 : 0 ≤ ((c : Int) + 1) * l := Int.mul_nonneg (by omega) hl
    rw [facL, Nat.pow_succ, Int.natCast_mul]
    refine ⟨Int.mul_nonneg h1 h4, Int.mul_le_mul h2 h3 h4 (by omega)⟩
theorem pow7z {a b : Nat} (h : a ≤ b) : ((7 ^ a : Nat) : Int) ≤ ((7 ^ b : Nat) : Int) := Int.ofNat_le.2 (Nat.pow_le_pow_right (by omega) h)
/-- all that is reckoned on the way stays small -/
theorem tw_bd {xs : List Int} (h : ∀ p, 0 ≤ nth xs p) {n : Nat} (hs : sumZ xs n ≤ 7) (hw : wsumZ xs n ≤ 7) : ∀ k, k ≤ n → 0 ≤ twI xs k ∧ twI xs k ≤ ((7 ^ (sumZ xs k).toNat : Nat) : Int)
  | 0, _ => by simp [twI, sumZ]
  | k + 1, hk => by
    obtain ⟨h1, h2⟩ := tw_bd h hs hw k (by omega)
    have hk0 := h k
    have h3 := (wsumZ_ge h k n (by omega)).1
    have hc : ((nth xs k).toNat : Int) = nth xs k := by omega
    obtain ⟨h4, h5⟩ := facL_bd ((k : Int) + 1) (by omega) (nth xs k).toNat (by rw [hc, Int.mul_comm]; omega) _ (Nat.le_refl _)
    have h6 := sumZ_nonneg h k
    rw [twI]
    refine ⟨Int.mul_nonneg h1 h4, ?_⟩
    rw [sumZ, show (sumZ xs k + nth xs k).toNat = (sumZ xs k).toNat + (nth xs k).toNat by omega, Nat.pow_add, Int.natCast_mul]
    exact Int.mul_le_mul h2 h5 h4 (by omega)
theorem sumZ_mono {xs : List Int} (h : ∀ p, 0 ≤ nth xs p) (i : Nat) : ∀ j, i ≤ j → sumZ xs i ≤ sumZ xs j
  | 0, hi => by
    obtain rfl : i = 0 := by omega
    exact Int.le_refl _
  | j + 1, hi => by
    by_cases e : i = j + 1
    · subst e; exact Int.le_refl _
    · have := sumZ_mono h i j (by omega)
      have := h j
      rw [sumZ]; omega
theorem tw_mid {xs : List Int} (h : ∀ p, 0 ≤ nth xs p) {n : Nat} (hs : sumZ xs n ≤ 7) (hw : wsumZ xs n ≤ 7) {k : Nat} (hk : k < n) {c : Nat} (hc : c ≤ (nth xs k).toNat) :
    0 ≤ twI xs k * facL ((k : Int) + 1) c ∧ twI xs k * facL ((k : Int) + 1) c ≤ 823543 := by
  obtain ⟨h1, h2⟩ := tw_bd h hs hw k (by omega)
  have hk0 := h k
  have h3 := (wsumZ_ge h k n hk).1
  have e : ((nth xs k).toNat : Int) = nth xs k := by omega
  obtain ⟨h4, h5⟩ := facL_bd ((k : Int) + 1) (by omega) (nth xs k).toNat (by rw [e, Int.mul_comm]; omega) c hc
  refine ⟨Int.mul_nonneg h1 h4, ?_⟩
  have h6 := sumZ_nonneg h k
  have h7 := sumZ_mono h (k + 1) n (by omega)
  rw [sumZ] at h7
  have h8 : twI xs k * facL ((k : Int) + 1) c ≤ ((7 ^ (sumZ xs k).toNat : Nat) : Int) * ((7 ^ c : Nat) : Int) := Int.mul_le_mul h2 h5 h4 (by omega)
  rw [← Int.natCast_mul, ← Nat.pow_add] at h8
  exact Int.le_trans h8 (pow7z (b := 7) (by omega))

/-! ### roots of turns -/
/-- of each even length there is an even number of loops -/
def evenB (xs : List Int) : Bool := (List.range xs.length).all fun k => !(k % 2 == 1) || nth xs k % 2 == 0
def rootOkB (f : List Int) : Bool := turnedB f && evenB (kindsL f)
theorem evenB_no {xs : List Int} {k : Nat} (hk : k < xs.length) (h1 : k % 2 = 1) (h2 : nth xs k % 2 ≠ 0) : evenB xs = false := by
  rw [evenB, List.all_eq_false]
  refine ⟨k, List.mem_range.2 hk, ?_⟩
  simp [h1, h2]
theorem evenB_yes {xs : List Int} (h : ∀ k, k < xs.length → k % 2 = 1 → nth xs k % 2 = 0) : evenB xs = true := by
  rw [evenB, List.all_eq_true]
  intro k hk
  have hk := List.mem_range.1 hk
  by_cases h1 : k % 2 = 1
  · simp [h k hk h1]
  · simp [h1]

end Go.Proofs.Ytjipecfoiddkjaa
