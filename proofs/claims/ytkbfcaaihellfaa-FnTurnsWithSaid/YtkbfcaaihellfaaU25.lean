/- Steps on the way to the law; each part says what it proves. -/
import Derived.Test.YtkbfcaaihellfaaU24
import Derived.Test.YtkbfcaaihellfaaU23

set_option linter.unusedSimpArgs false

/- Contracts of chapter 2: tails of the reference, least things of loops. -/
namespace Go.Proofs.Ytkbfcaaihellfaa
open Go.RowKit
set_option linter.unusedVariables false

theorem nth_way (f : List Int) (n k : Nat) (hk : k < rho f n) : nth (ints (way f n)) k = (it f k n : Int) := by
  have h : k < (way f n).length := by rw [way, walk_len]; exact hk
  rw [nth_ints h]
  simp only [way, walk_get]

set_option maxHeartbeats 1000000 in
theorem sTailOf_c (A : Option Addr) (c : Nat) (f : List Int) (t : Int) (w : World) (hR : RdA w A f) (hn : f.length ≤ 1048577) :
    Calls Try.prog 101 #[.slice A f.length c, .int .i64 t] w fun e w' => e = .returned (.int .i64 (tailV f t)) ∧ Below w.heap.size w w' := by
  have c1 := sWayFrom_c A c f t w hR hn
  by_cases h : thB f t = true
  · obtain ⟨n, rfl, hlt, hf⟩ := th_nat h
    rw [wayL_yes h] at c1
    have HE := hid (tailV_yes h)
    have hl := rho_le hf hlt
    have hrp := rho_pos hf hlt
    have htl := tail_lt hf hlt
    have h7 := hf.1.2
    have HF := hid hf
    have HW := hid (way_len f n)
    have C1 := hid c1
    clear h hf c1
    go_enter Try.func101, Try.ntmps101
    go_wp2_with fail
    refine C1.out.mono ?_; rintro e w2 ⟨A2, c2, rfl, ho, hb⟩
    rw [HW.out]
    obtain ⟨g, c2', e2, _, _⟩ := ho.pos (by rw [HW.out]; exact hrp)
    cases e2
    have HO := hid ho
    have HR := hid (hR.below hb)
    clear ho hR C1
    go_wp2_with fail
    go_loopw [6] (fun i wr => ∃ k : Nat, k ≤ tail f n ∧ i = .int .i64 k ∧ Below w2.heap.size w2 wr) (fun i _ => rho f n - (intOf i).toNat)
    case atStart => exact ⟨0, Nat.zero_le _, rfl, Below.refl _ _⟩
    case round =>
      obtain ⟨k, hk, rfl, hb3⟩ := hrel
      have ho := HO.out.below (hb3.mono (Nat.le_refl _))
      have hc1 := ho.cell (k := k) (by rw [HW.out]; omega)
      rw [nth_way f n k (by omega)] at hc1
      have hc2 := ho.cell (k := rho f n - 1) (by rw [HW.out]; omega)
      rw [nth_way f n _ (by omega)] at hc2
      have hit := HF.out.it_lt hlt (rho f n - 1)
      obtain ⟨ad, rfl, hc3⟩ := (HR.out.below hb3) _ hit
      rw [HF.out.nth_ap hit, show ap f (it f (rho f n - 1) n) = it f (rho f n) n by rw [show rho f n = (rho f n - 1) + 1 by omega]; rfl] at hc3
      have HB := hid (hb.trans (hb3.mono hb.size))
      have q0 : IntKind.i64.wrap ((rho f n : Int) - 1) = ((rho f n - 1 : Nat) : Int) := by rw [IntWalk.i64_in _ (by omega)]; omega
      have q00 : ((rho f n : Int) - 1) = ((rho f n - 1 : Nat) : Int) := by omega
      have HB3 := hid hb3
      clear ho hb3
      by_cases hkt : k = tail f n
      · subst hkt
        have q : ((it f (tail f n) n : Int) == (it f (rho f n) n : Int)) = true := by rw [tail_it HF.out hlt]; simp
        rw [tail_it HF.out hlt] at hc1 q
        generalize it f (rho f n - 1) n = X at *
        generalize it f (rho f n) n = Y at *
        generalize rho f n - 1 = l at *
        generalize hT : tail f n = T at *
        clear HO HR
        go_wp2
        rw [q0] at *
        go_region
        all_goals go_wp2
        all_goals go_ret
        all_goals exact ⟨ret_int (by rw [HE.out]), by first | exact HB.out.drew | exact HB.out⟩
      · have q : ((it f k n : Int) == (it f (rho f n) n : Int)) = false := by
          have : it f k n ≠ it f (rho f n) n := fun e => hkt (it_inj HF.out hlt (by omega) htl (e.trans (tail_it HF.out hlt).symm))
          simp; omega
        generalize it f (rho f n - 1) n = X at *
        generalize it f (rho f n) n = Y at *
        generalize it f k n = Z at *
        generalize rho f n - 1 = l at *
        clear HO HR
        go_wp2
        rw [q0] at *
        go_region
        all_goals go_wp2
        all_goals go_roundw
        case rel => exact ⟨k + 1, by omega, by go_num, by first | exact HB3.out.drew | exact HB3.out⟩
        case measure => simp [intOf]; omega
  · have HE := hid (tailV_no h)
    rw [wayL_no h] at c1
    clear h hR
    go_enter Try.func101, Try.ntmps101
    go_wp2_with fail
    refine c1.mono ?_; rintro e w2 ⟨A2, c2, rfl, ho, hb⟩
    rw [show ([] : List Int).length = 0 from rfl]
    go_wp2_with fail
    refine wp_loop_rounds 1 ?_
    rw [rounds_succ]
    go_wp2_with fail
    go_ret
    exact ⟨ret_int HE.out.symm, hb⟩

theorem sOnLoop_c (A : Option Addr) (c : Nat) (f : List Int) (t : Int) (w : World) (hR : RdA w A f) (hn : f.length ≤ 1048577) :
    Calls Try.prog 92 #[.slice A f.length c, .int .i64 t] w fun e w' => e = .returned (.bool (tailV f t == 0)) ∧ Below w.heap.size w w' := by
  have c1 := sTailOf_c A c f t w hR hn
  clear hR
  generalize tailV f t = T at *
  go_enter Try.func92, Try.ntmps92
  go_wp2_with fail
  refine c1.mono ?_; rintro e w' ⟨rfl, hb⟩
  go_wp2_with fail
  go_ret
  exact ⟨rfl, hb⟩

end Go.Proofs.Ytkbfcaaihellfaa

/- Contracts of chapter 2: least things of loops, lots, heights. -/
namespace Go.Proofs.Ytkbfcaaihellfaa
open Go.RowKit
set_option linter.unusedVariables false

def mm (xs : List Int) : Nat → Int
  | 0 => nth xs 0
  | k + 1 => if nth xs k < mm xs k then nth xs k else mm xs k
theorem mm_one (xs : List Int) : mm xs 1 = nth xs 0 := by simp [mm]
theorem mm_mem (xs : List Int) : ∀ k, ∃ j, j ≤ k - 1 ∧ mm xs k = nth xs j
  | 0 => ⟨0, by omega, rfl⟩
  | k + 1 => by
    obtain ⟨j, hj, e⟩ := mm_mem xs k
    by_cases h : nth xs k < mm xs k
    · exact ⟨k, by omega, by rw [mm, if_pos h]⟩
    · exact ⟨j, by omega, by rw [mm, if_neg h, e]⟩
theorem mm_le (xs : List Int) : ∀ k j, j < k → mm xs k ≤ nth xs j
  | 0, j, h => by omega
  | k + 1, j, h => by
    rw [mm]
    by_cases e : j = k
    · subst e; split <;> omega
    · have := mm_le xs k j (by omega)
      split <;> omega
theorem Own.cap {B : Nat} {w : World} {A : Option Addr} {n c : Nat} {xs : List Int} (h : Own B w (.slice A n c) xs) : n ≤ c ∧ c ≤ maxLen := by
  have hn : n = xs.length := Own.len h
  obtain ⟨_, ⟨e, _⟩ | ⟨g, cap, cur, e, _, _, h1, h2, _, _⟩⟩ := h
  · cases e; exact ⟨Nat.le_refl _, Nat.zero_le _⟩
  · cases e
    omega
theorem mm_ints {l : List Nat} (hl : l ≠ []) : mm (ints l) l.length = (minL l : Int) := by
  have h0 : 0 < l.length := List.length_pos_iff.2 hl
  obtain ⟨j, hj, e⟩ := mm_mem (ints l) l.length
  have hj' : j < l.length := by omega
  rw [nth_ints hj'] at e
  rw [e]
  have : minL l = l[j] := minL_eq (List.getElem_mem hj') fun x hx => by
    obtain ⟨i, hi, rfl⟩ := List.getElem_of_mem hx
    have := mm_le (ints l) l.length i hi
    rw [e, nth_ints hi] at this
    omega
  rw [this]

theorem min_c (A : Option Addr) (c : Nat) (xs : List Int) (w : World) (hR : RdA w A xs) (hn : xs.length ≤ 1048577) (h0 : 0 < xs.length) :
    Calls Try.prog 100 #[.slice A xs.length c] w fun e w' => e = .returned (.int .i64 (mm xs xs.length)) ∧ w = w' := by
  have HR := hid hR
  obtain ⟨ad, rfl, hc0⟩ := hR 0 h0
  have e0 : ad.add 0 = ad := by cases ad; simp [Addr.add]
  rw [e0] at hc0
  have H1 := hid (mm_one xs)
  clear hR e0
  go_enter Try.func100, Try.ntmps100
  go_wp2_with fail
  go_loop [3, 4] (fun m i => ∃ k : Nat, 1 ≤ k ∧ k ≤ xs.length ∧ i = .int .i64 k ∧ m = .int .i64 (mm xs k)) (fun _ i => xs.length - (intOf i).toNat)
  case atStart => exact ⟨1, by omega, by omega, rfl, by rw [H1.out]⟩
  case round =>
    obtain ⟨k, hk1, hk, rfl, rfl⟩ := hrel
    by_cases hlt : k < xs.length
    · obtain ⟨ad', ee, hc⟩ := HR.out k hlt
      cases ee
      have HS := hid (show mm xs (k + 1) = if nth xs k < mm xs k then nth xs k else mm xs k from rfl)
      clear hc0
      generalize mm xs k = M at *
      generalize nth xs k = X at *
      go_wp2_with fail
      go_round
      case rel => exact ⟨k + 1, by omega, by omega, by go_num, by rw [HS.out]⟩
      case measure => simp [intOf]; omega
    · obtain rfl : k = xs.length := by omega
      have HM := hid (show ∃ M, mm xs xs.length = M from ⟨_, rfl⟩)
      obtain ⟨M, hM⟩ := HM.out
      rw [hM]
      have KM := hid hM
      clear hM HM
      go_wp2_with fail
      go_ret
      exact ⟨ret_int KM.out.symm, rfl⟩

def lotV (f : List Int) (t : Int) : Int := if thB f t = true then (loopOf f t.toNat : Int) else -1
theorem lotV_yes {f : List Int} {n : Nat} (h : thB f n = true) : lotV f n = (loopOf f n : Int) := by rw [lotV, if_pos h]; rfl
theorem lotV_no {f : List Int} {t : Int} (h : ¬ thB f t = true) : lotV f t = -1 := by rw [lotV, if_neg h]

set_option maxHeartbeats 400000 in
theorem iLoopOf_c (A : Option Addr) (c : Nat) (f : List Int) (t : Int) (w : World) (hR : RdA w A f) (hn : f.length ≤ 1048577) :
    Calls Try.prog 90 #[.slice A f.length c, .int .i64 t] w fun e w' => e = .returned (.int .i64 (lotV f t)) ∧ Below w.heap.size w w' := by
  have c1 := thingOk_c A c f t w hR hn
  by_cases h : thB f t = true
  · obtain ⟨n, rfl, hlt, hf⟩ := th_nat h
    have c2 := iWayFrom_c A c f n w hR hn
    have HE := hid (lotV_yes h)
    have C3 := hid (fun W (hb : Below w.heap.size w W) => iTailOf_c A c f n W (hR.below hb) hn)
    rw [tailV_yes h] at C3
    rw [wayL_yes h] at c2
    have hr := rho_eq hf hlt
    have hl := rho_le hf hlt
    have hp := loop_pos hf hlt
    have h7 := hf.1.2
    have HW := hid (way_len f n)
    have HM := hid (show mm (ints (loopL f n)) (loopL f n).length = (loopOf f n : Int) from mm_ints (loopL_ne hf hlt))
    have HL := hid (show (ints (loopL f n)).length = loop f n by rw [ints_len, loopL_len])
    have HN := hid (show ∀ k, k < loop f n → nth (ints (loopL f n)) k = nth (ints (way f n)) (tail f n + k) from fun k hk => by
      have h1 : k < (loopL f n).length := by rw [loopL_len]; exact hk
      have h2 : tail f n + k < (way f n).length := by rw [way, walk_len]; omega
      rw [nth_ints h1, nth_ints h2]
      simp only [loopL, List.getElem_drop])
    have K2 := hid c2
    rw [h] at c1
    clear h hR hf c2
    go_enter Try.func90, Try.ntmps90
    go_wp2_with fail
    refine c1.mono ?_; rintro e w' ⟨rfl, rfl⟩
    go_wp2_with fail
    refine K2.out.mono ?_; rintro e w' ⟨B, d, rfl, ho, hb⟩
    rw [HW.out]
    obtain ⟨g, d', e2, _, _⟩ := ho.pos (by rw [HW.out]; omega)
    cases e2
    have hcap := ho.cap.1
    have hcap2 := ho.cap.2
    rw [HW.out] at hcap
    unfold maxLen at hcap2
    have c4 := C3.out w' hb
    clear C3 K2
    go_wp2_with fail
    refine c4.mono ?_; rintro e w2 ⟨rfl, hb2⟩
    have ho2 := ho.below (hb2.mono (Nat.le_refl _))
    have c5 := min_c (some ⟨g, tail f n, none⟩) (d - tail f n) (ints (loopL f n)) w2 (fun k hk => by
      rw [HL.out] at hk
      have := ho2.cell (k := tail f n + k) (by rw [HW.out]; omega)
      refine ⟨_, rfl, ?_⟩
      rw [HN.out k hk]
      by_cases k0 : k = 0
      · subst k0; simpa [Addr.add] using this
      · simpa [Addr.add, k0] using this) (by rw [HL.out]; omega) (by rw [HL.out]; omega)
    rw [HL.out] at c5
    have HM2 := HM
    rw [loopL_len] at HM2
    rw [HM2.out] at c5
    go_wp2_with fail
    refine c5.mono ?_; rintro e w3 ⟨rfl, rfl⟩
    go_wp2_with fail
    go_ret
    exact ⟨ret_int HE.out.symm, hb.trans (hb2.mono hb.size)⟩
  · have HE := hid (lotV_no h)
    rw [th_no h] at c1
    clear h hR
    go_enter Try.func90, Try.ntmps90
    go_wp2_with fail
    refine c1.mono ?_; rintro e w' ⟨rfl, rfl⟩
    go_wp2_with fail
    go_ret
    exact ⟨ret_int HE.out.symm, Below.refl _ _⟩

end Go.Proofs.Ytkbfcaaihellfaa

/- Contracts of chapters 2 and 4: least things of loops (the reference's), heights, index. -/
namespace Go.Proofs.Ytkbfcaaihellfaa
open Go.RowKit
set_option linter.unusedVariables false

theorem th_of {f : List Int} (hf : Good f) {k : Nat} (hk : k < f.length) : thB f k = true := thB_iff.2 ⟨hf, by omega, by omega⟩
/-- the greatest tail of the first k things -/
def hiT (f : List Int) : Nat → Int
  | 0 => -1
  | k + 1 => if hiT f k < (tail f k : Int) then (tail f k : Int) else hiT f k
def highV (f : List Int) : Int := if mapOkB f = true then hiT f f.length else -1
theorem hiT_le (f : List Int) : ∀ k j, j < k → (tail f j : Int) ≤ hiT f k
  | 0, j, h => by omega
  | k + 1, j, h => by
    rw [hiT]
    by_cases e : j = k
    · subst e; split <;> omega
    · have := hiT_le f k j (by omega)
      split <;> omega
theorem hiT_mem (f : List Int) : ∀ k, 0 < k → ∃ j, j < k ∧ hiT f k = (tail f j : Int)
  | 0, h => by omega
  | k + 1, h => by
    rw [hiT]
    by_cases h1 : hiT f k < (tail f k : Int)
    · exact ⟨k, by omega, by rw [if_pos h1]⟩
    · rw [if_neg h1]
      by_cases hk : 0 < k
      · obtain ⟨j, hj, e⟩ := hiT_mem f k hk
        exact ⟨j, by omega, e⟩
      · obtain rfl : k = 0 := by omega
        simp [hiT] at h1
        omega
theorem hiT_low (f : List Int) : ∀ k, -1 ≤ hiT f k
  | 0 => by simp [hiT]
  | k + 1 => by
    have := hiT_low f k
    rw [hiT]
    split <;> omega
theorem hiT_high {f : List Int} (hf : Good f) {k : Nat} (hk : k ≤ f.length) : hiT f k < f.length := by
  cases k with
  | zero => simp only [hiT]; omega
  | succ k =>
    obtain ⟨j, hj, e⟩ := hiT_mem f (k + 1) (by omega)
    have := tail_le hf (show j < f.length by omega)
    omega



theorem mem_loopL' {f : List Int} {n x : Nat} : x ∈ loopL f n ↔ ∃ j, tail f n ≤ j ∧ j < rho f n ∧ it f j n = x := by
  constructor
  · intro h
    obtain ⟨i, hi, rfl⟩ := List.getElem_of_mem h
    have hi' := hi
    rw [loopL_len, loop] at hi'
    refine ⟨tail f n + i, by omega, by omega, ?_⟩
    simp only [loopL, List.getElem_drop, way, walk_get]
  · rintro ⟨j, h1, h2, rfl⟩
    have hi : j - tail f n < (loopL f n).length := by rw [loopL_len, loop]; omega
    have := List.getElem_mem hi
    simp only [loopL, List.getElem_drop, way, walk_get] at this
    rw [show tail f n + (j - tail f n) = j by omega] at this
    exact this
/-- the least thing among those of the loop that the first k steps have seen; -1 ahead of it -/
def bst (f : List Int) (n : Nat) : Nat → Int
  | 0 => -1
  | k + 1 => if tail f n ≤ k ∧ (bst f n k < 0 ∨ (it f k n : Int) < bst f n k) then (it f k n : Int) else bst f n k
theorem bst_low (f : List Int) (n : Nat) : ∀ k, k ≤ tail f n → bst f n k = -1
  | 0, _ => rfl
  | k + 1, h => by rw [bst, if_neg (fun h' => by omega), bst_low f n k (by omega)]
theorem bst_spec (f : List Int) (n : Nat) : ∀ k, tail f n < k → (∃ j, tail f n ≤ j ∧ j < k ∧ bst f n k = (it f j n : Int)) ∧ ∀ j, tail f n ≤ j → j < k → bst f n k ≤ (it f j n : Int)
  | 0, h => by omega
  | k + 1, h => by
    by_cases hk : tail f n < k
    · obtain ⟨⟨j, h1, h2, e⟩, hall⟩ := bst_spec f n k hk
      by_cases hx : (it f k n : Int) < bst f n k
      · rw [bst, if_pos ⟨by omega, .inr hx⟩]
        refine ⟨⟨k, by omega, by omega, rfl⟩, fun j h3 h4 => ?_⟩
        by_cases hjk : j = k
        · subst hjk; omega
        · have := hall j h3 (by omega); omega
      · rw [bst, if_neg (fun h' => by rcases h'.2 with h5 | h5 <;> omega)]
        refine ⟨⟨j, h1, by omega, e⟩, fun j h3 h4 => ?_⟩
        by_cases hjk : j = k
        · subst hjk; omega
        · exact hall j h3 (by omega)
    · obtain rfl : k = tail f n := by omega
      rw [bst, if_pos ⟨by omega, .inl (by rw [bst_low _ _ _ (Nat.le_refl _)]; decide)⟩]
      refine ⟨⟨tail f n, by omega, by omega, rfl⟩, fun j h3 h4 => ?_⟩
      obtain rfl : j = tail f n := by omega
      exact Int.le_refl _
theorem bst_all {f : List Int} (hf : Good f) {n : Nat} (hn : n < f.length) : bst f n (rho f n) = (loopOf f n : Int) := by
  obtain ⟨⟨j, h1, h2, e⟩, hall⟩ := bst_spec f n (rho f n) (tail_lt hf hn)
  rw [e, loopOf, minL_eq (mem_loopL'.2 ⟨j, h1, h2, rfl⟩)]
  intro x hx
  obtain ⟨i, h3, h4, rfl⟩ := mem_loopL'.1 hx
  have := hall i h3 h4
  omega

end Go.Proofs.Ytkbfcaaihellfaa

/- Contracts of chapters 2 and 4: LoopOf of the reference, lots, index, idempotent maps. -/
namespace Go.Proofs.Ytkbfcaaihellfaa
open Go.RowKit
set_option linter.unusedVariables false

set_option maxHeartbeats 1000000 in
theorem sLoopOf_c (A : Option Addr) (c : Nat) (f : List Int) (t : Int) (w : World) (hR : RdA w A f) (hn : f.length ≤ 1048577) :
    Calls Try.prog 93 #[.slice A f.length c, .int .i64 t] w fun e w' => e = .returned (.int .i64 (lotV f t)) ∧ Below w.heap.size w w' := by
  have c1 := sWayFrom_c A c f t w hR hn
  by_cases h : thB f t = true
  · obtain ⟨n, rfl, hlt, hf⟩ := th_nat h
    rw [wayL_yes h] at c1
    have HE := hid ((bst_all hf hlt).trans (lotV_yes h).symm)
    have C2 := hid (fun W (hb : Below w.heap.size w W) => sTailOf_c A c f n W (hR.below hb) hn)
    rw [tailV_yes h] at C2
    have hl := rho_le hf hlt
    have hrp := rho_pos hf hlt
    have htl := tail_lt hf hlt
    have h7 := hf.1.2
    have HW := hid (way_len f n)
    have C1 := hid c1
    clear h hf c1 hR
    go_enter Try.func93, Try.ntmps93
    go_wp2_with fail
    refine C1.out.mono ?_; rintro e w2 ⟨A2, c2, rfl, ho, hb⟩
    rw [HW.out]
    obtain ⟨g, c2', e2, _, _⟩ := ho.pos (by rw [HW.out]; exact hrp)
    cases e2
    have HO := hid ho
    clear ho C1
    go_wp2_with fail
    go_loopw [6, 7] (fun b i wr => ∃ k : Nat, k ≤ rho f n ∧ i = .int .i64 k ∧ b = .int .i64 (bst f n k) ∧ Below w2.heap.size w2 wr) (fun _ i _ => rho f n - (intOf i).toNat)
    case atStart => exact ⟨0, Nat.zero_le _, rfl, rfl, Below.refl _ _⟩
    case round =>
      obtain ⟨k, hk, rfl, rfl, hb3⟩ := hrel
      have HB := hid (hb.trans (hb3.mono hb.size))
      by_cases hkr : k < rho f n
      · have c2 := C2.out wr HB.out
        have HS := hid (show bst f n (k + 1) = if tail f n ≤ k ∧ (bst f n k < 0 ∨ (it f k n : Int) < bst f n k) then (it f k n : Int) else bst f n k from rfl)
        have HO3 := hid (fun W (hb4 : Below wr.heap.size wr W) => (((HO.out.below (hb3.mono (Nat.le_refl _))).below (hb4.mono (Nat.le_refl _))).cell (k := k) (by rw [HW.out]; exact hkr)).trans (by rw [nth_way f n k hkr]))
        clear C2
        by_cases hkt : tail f n ≤ k
        · by_cases hlow : bst f n k < 0
          · have q := decide_eq_true hlow
            have HS' := hid (HS.out.trans (if_pos ⟨hkt, .inl hlow⟩))
            clear hlow
            generalize bst f n k = M at *
            generalize it f k n = X at *
            go_wp2_with fail
            refine c2.mono ?_; rintro e w4 ⟨rfl, hb4⟩
            have hc := HO3.out w4 hb4
            go_wp2_with fail
            go_roundw
            case rel => exact ⟨k + 1, by omega, by go_num, by rw [HS'.out], hb3.trans (hb4.mono hb3.size)⟩
            case measure => simp [intOf]; omega
          · have q := decide_eq_false hlow
            by_cases hx : (it f k n : Int) < bst f n k
            · have q2 := decide_eq_true hx
              have HS' := hid (HS.out.trans (if_pos ⟨hkt, .inr hx⟩))
              clear hx hlow
              generalize bst f n k = M at *
              generalize it f k n = X at *
              go_wp2_with fail
              refine c2.mono ?_; rintro e w4 ⟨rfl, hb4⟩
              have hc := HO3.out w4 hb4
              go_wp2_with fail
              go_roundw
              case rel => exact ⟨k + 1, by omega, by go_num, by rw [HS'.out], hb3.trans (hb4.mono hb3.size)⟩
              case measure => simp [intOf]; omega
            · have q2 := decide_eq_false hx
              have HS' := hid (HS.out.trans (if_neg (fun h => h.2.elim hlow hx)))
              clear hx hlow
              generalize bst f n k = M at *
              generalize it f k n = X at *
              go_wp2_with fail
              refine c2.mono ?_; rintro e w4 ⟨rfl, hb4⟩
              have hc := HO3.out w4 hb4
              go_wp2_with fail
              go_roundw
              case rel => exact ⟨k + 1, by omega, by go_num, by rw [HS'.out], hb3.trans (hb4.mono hb3.size)⟩
              case measure => simp [intOf]; omega
        · have HS' := hid (HS.out.trans (if_neg (fun h => hkt h.1)))
          generalize bst f n k = M at *
          generalize it f k n = X at *
          go_wp2_with fail
          refine c2.mono ?_; rintro e w4 ⟨rfl, hb4⟩
          go_wp2_with fail
          go_roundw
          case rel => exact ⟨k + 1, by omega, by go_num, by rw [HS'.out], hb3.trans (hb4.mono hb3.size)⟩
          case measure => simp [intOf]; omega
      · obtain rfl : k = rho f n := by omega
        rw [HE.out]
        clear C2
        go_wp2_with fail
        go_ret
        exact ⟨rfl, HB.out⟩
  · have HE := hid (lotV_no h)
    rw [wayL_no h] at c1
    clear h hR
    go_enter Try.func93, Try.ntmps93
    go_wp2_with fail
    refine c1.mono ?_; rintro e w2 ⟨A2, c2, rfl, ho, hb⟩
    rw [show ([] : List Int).length = 0 from rfl]
    go_wp2_with fail
    refine wp_loop_rounds 1 ?_
    rw [rounds_succ]
    go_wp2_with fail
    go_ret
    exact ⟨ret_int HE.out.symm, hb⟩

def indexV (f : List Int) : Int := if mapOkB f = true then (if highV f ≤ 1 then 1 else highV f) else -1



def idemB (f : List Int) : Bool := mapOkB f && decide (behindL f f = f)


end Go.Proofs.Ytkbfcaaihellfaa

/- Words for rows of slices of integers. -/
namespace Go.Proofs.Ytkbfcaaihellfaa
open Go.RowKit
set_option linter.unusedVariables false

def gl (xss : List (List Int)) (k : Nat) : List Int := xss.getD k []
/-- the slice v is the call's own and holds the values vs, slices themselves -/
def RowR (B : Nat) (w : World) (v : Value) (vs : List Value) : Prop := w.ownsRow B 22 1 v vs.length vs
def Els (B : Nat) (w : World) (vs : List Value) (xss : List (List Int)) : Prop :=
  vs.length = xss.length ∧ ∀ k, k < xss.length → ∃ A c, vs[k]? = some (.slice A (gl xss k).length c) ∧ Own B w (.slice A (gl xss k).length c) (gl xss k)
def OwnRR (B : Nat) (w : World) (v : Value) (xss : List (List Int)) : Prop := ∃ vs, RowR B w v vs ∧ Els B w vs xss

theorem own_apart_row {B B' : Nat} {w : World} {u v : Value} {xs : List Int} {vs : List Value} (h : Own B w u xs) (hr : RowR B' w v vs) : u.ownBlock = none ∨ u.ownBlock ≠ v.ownBlock := by
  rcases h.2 with ⟨rfl, _⟩ | ⟨g, cap, cur, rfl, _, hb, _⟩
  · exact .inl rfl
  · refine .inr ?_
    rcases hr.2 with ⟨rfl, _⟩ | ⟨g', cap', cur', rfl, _, hb', _⟩
    · simp [Value.ownBlock]
    · intro e
      obtain rfl : g = g' := by simpa [Value.ownBlock] using e
      rw [hb] at hb'
      simp at hb'
theorem Els.kept {B : Nat} {w w' : World} {vs : List Value} {xss : List (List Int)} {row : Option Nat} (h : Els B w vs xss) (hg : w.grownBy w' row) (hne : ∀ u xs, Own B w u xs → u.ownBlock = none ∨ u.ownBlock ≠ row) : Els B w' vs xss :=
  ⟨h.1, fun k hk => by
    obtain ⟨A, c, e, ho⟩ := h.2 k hk
    exact ⟨A, c, e, ho.kept hg (hne _ _ ho)⟩⟩
theorem OwnRR.below {B : Nat} {w w' : World} {v : Value} {xss : List (List Int)} (h : OwnRR B w v xss) (hb : Below w.heap.size w w') : OwnRR B w' v xss := by
  obtain ⟨vs, hr, hl, he⟩ := h
  refine ⟨vs, ?_, hl, fun k hk => ?_⟩
  · rcases hv : v.ownBlock with _ | g
    · exact World.ownsRow.kept hr (grown_of_below hb none) (.inl hv)
    · exact World.ownsRow.kept hr (grown_of_below hb none) (.inr (by rw [hv]; simp))
  · obtain ⟨A, c, e, ho⟩ := he k hk
    exact ⟨A, c, e, ho.below hb⟩
theorem OwnRR.mono {B B' : Nat} {w : World} {v : Value} {xss : List (List Int)} (h : OwnRR B w v xss) (hB : B' ≤ B) : OwnRR B' w v xss := by
  obtain ⟨vs, hr, hl, he⟩ := h
  refine ⟨vs, ⟨hr.1, ?_⟩, hl, fun k hk => ?_⟩
  · rcases hr.2 with h2 | ⟨g, cap, cur, hv, hg, r⟩
    · exact .inl h2
    · exact .inr ⟨g, cap, cur, hv, Nat.le_trans hB hg, r⟩
  · obtain ⟨A, c, e, ho⟩ := he k hk
    exact ⟨A, c, e, ho.mono hB⟩
theorem OwnRR.drew {B : Nat} {w : World} {v : Value} {xss : List (List Int)} (h : OwnRR B w v xss) : OwnRR B w.drew v xss := h.below (Below.refl _ _).drew
theorem OwnRR.alloc {B : Nat} {w : World} {v : Value} {xss : List (List Int)} (h : OwnRR B w v xss) (o : Obj) : OwnRR B (w.alloc o) v xss := h.below ((Below.refl _ _).alloc (Nat.le_refl _) o)
theorem OwnRR.nil (B : Nat) (w : World) : OwnRR B w (.slice none 0 0) [] := ⟨[], World.ownsRow_nil _ _ _ _, rfl, fun k hk => by simp at hk⟩
theorem OwnRR.new_ (w : World) : OwnRR w.heap.size (w.alloc (.cells #[] 22)) (.slice (some ⟨w.heap.size, 0, none⟩) 0 0) [] := by
  have := World.ownsRow_lit (base := w.heap.size) (e := 22) (size := 1) w #[] 0 (Nat.le_refl _) (by decide) (by simp)
  exact ⟨[], by unfold RowR; simpa using this, rfl, fun k hk => by simp at hk⟩
theorem OwnRR.form {B : Nat} {w : World} {v : Value} {xss : List (List Int)} (h : OwnRR B w v xss) : ∃ A c, v = .slice A xss.length c := by
  obtain ⟨vs, hr, hl, _⟩ := h
  rcases hr.2 with ⟨rfl, h0⟩ | ⟨g, cap, cur, rfl, hg, hh, r⟩
  · exact ⟨none, 0, by rw [← hl, h0]⟩
  · exact ⟨_, cap, by rw [hl]⟩
/-- the k-th of the rows -/
theorem OwnRR.at_ {B : Nat} {w : World} {A : Option Addr} {n c : Nat} {xss : List (List Int)} (h : OwnRR B w (.slice A n c) xss) {k : Nat} (hk : k < xss.length) :
    ∃ g D d, A = some ⟨g, 0, none⟩ ∧ B ≤ g ∧ w.cell? ⟨g, k, none⟩ = some (.slice D (gl xss k).length d) ∧ Own B w (.slice D (gl xss k).length d) (gl xss k) := by
  obtain ⟨vs, hr, hl, he⟩ := h
  obtain ⟨D, d, e, ho⟩ := he k hk
  have hv := hr.2
  rcases hv with ⟨e1, h0⟩ | ⟨g, cap, cur, e1, hg, hh, r⟩
  · omega
  · cases e1
    have := World.ownsRow.cells hr (g := g) rfl k _ e
    exact ⟨g, D, d, rfl, hg, by rwa [add_g] at this, ho⟩

theorem info_row : (Try.prog.info? 22).map (fun i => (i.zero, i.size, i.bytes)) = some (some (.slice none 0 0), 1, 24) := by kernel_rfl
theorem info_parts' {t : TypeId} {z : Value} {n b : Nat} (h : (Try.prog.info? t).map (fun i => (i.zero, i.size, i.bytes)) = some (some z, n, b)) : ∃ i, Try.prog.info? t = some i ∧ i.zero = some z ∧ i.size = n ∧ i.bytes = b := by
  cases hi : Try.prog.info? t with
  | none => rw [hi] at h; cases h
  | some i =>
    rw [hi] at h
    simp at h
    exact ⟨i, rfl, h.1, h.2.1, h.2.2⟩

/-- append of one slice -/
theorem wpList_appR {ops : Array Oper} {rest : List Oper} {o : Oper} {a : Act} {Q : Exit → Act → World → Prop} (w : World) (hgd : o.guard = none) (s x : Operand)
    (ho : o.op = .call { callee := .builtin .append, args := #[s, x], argTypes := #[23, 23] })
    (base : Nat) (v : Value) (xss : List (List Int)) (hs : a.eval s = v) (hown : OwnRR base w v xss) (g : Nat) (D : Option Addr) (d : Nat) (zs : List Int) (hz : Own base w (.slice D zs.length d) zs)
    (hx : a.eval x = .slice (some ⟨g, 0, none⟩) 1 1)
    (hc : w.cell? ⟨g, 0, none⟩ = some (.slice D zs.length d)) (hlen : xss.length ≤ 1000000000000) (hbase : base ≤ w.heap.size)
    (hK : ∀ A c w', OwnRR base w' (.slice A (xss.length + 1) c) (xss ++ [zs]) → Below base w w' → wpList Try.prog ops Q rest (a.put o.dst (.slice A (xss.length + 1) c)) w') : wpList Try.prog ops Q (o :: rest) a w := by
  obtain ⟨i0, hi, hz0, hz1, hz2⟩ := info_parts' info_row
  obtain ⟨vs, hr, hl, he⟩ := hown
  refine wpList_append_own w hgd s x 23 ho base 22 i0 (.slice none 0 0) 1 24 Try.underlying23 hi hz0 hz1 hz2 rfl (by decide) v vs.length vs hs hr ⟨g, 0, none⟩ 1 1 [.slice D zs.length d] hx rfl ?_ ?_ ?_ ?_ hbase ?_
  · intro j u hj
    match j, hj with
    | 0, hj => simp at hj; subst hj; simpa [Addr.add] using hc
  · intro u hu; simp at hu; subst hu; rfl
  · unfold maxLen; omega
  · omega
  · intro v' w' hown' hgrow _
    have hel : Els base w' (vs ++ [.slice D zs.length d]) (xss ++ [zs]) := by
      refine ⟨by simp [hl], fun k hk => ?_⟩
      rw [List.length_append] at hk
      by_cases hkl : k < xss.length
      · obtain ⟨A, c, e, ho⟩ := he k hkl
        have e9 : gl (xss ++ [zs]) k = gl xss k := by simp [gl, List.getD, List.getElem?_append_left hkl]
        rw [e9]
        exact ⟨A, c, by rw [List.getElem?_append_left (by omega)]; exact e, ho.kept hgrow (own_apart_row ho hr)⟩
      · obtain rfl : k = xss.length := by simp at hk; omega
        have e9 : gl (xss ++ [zs]) xss.length = zs := by simp [gl, List.getD]
        rw [e9]
        exact ⟨D, d, by rw [← hl]; simp, hz.kept hgrow (own_apart_row hz hr)⟩
    have hrow : RowR base w' v' (vs ++ [.slice D zs.length d]) := by unfold RowR; simpa using hown'
    have hall : OwnRR base w' v' (xss ++ [zs]) := ⟨_, hrow, hel⟩
    obtain ⟨A, c, e⟩ := hall.form
    rw [e] at hall ⊢
    rw [List.length_append] at hall ⊢
    exact hK A c w' hall ((Below.refl base w).grown hgrow hbase (fun k hk => (World.ownsRow.lt hr k hk).1))

end Go.Proofs.Ytkbfcaaihellfaa

/- Contracts of chapter 2: all loops. -/
namespace Go.Proofs.Ytkbfcaaihellfaa
open Go.RowKit
set_option linter.unusedVariables false

/-- the loops whose least things are among the first k -/
def loopsK (f : List Int) : Nat → List (List Int)
  | 0 => []
  | k + 1 => if loopOf f k = k then loopsK f k ++ [ints (way f k)] else loopsK f k
def loopsLL (f : List Int) : List (List Int) := if mapOkB f = true then loopsK f f.length else []
theorem loopsK_len (f : List Int) : ∀ k, (loopsK f k).length ≤ k
  | 0 => by simp [loopsK]
  | k + 1 => by
    have := loopsK_len f k
    rw [loopsK]
    split
    · rw [List.length_append]; simp; omega
    · omega
/-- new rows are handed back -/
def RetRR (w : World) (xss : List (List Int)) (e : Ending) (w' : World) : Prop := ∃ A c, e = .returned (.slice A xss.length c) ∧ OwnRR w.heap.size w' (.slice A xss.length c) xss ∧ Below w.heap.size w w'
theorem retRR_own {w wr : World} {v : Value} {L : List (List Int)} (ho : OwnRR w.heap.size wr v L) (hb : Below w.heap.size w wr) : RetRR w L (.returned v) wr := by
  obtain ⟨A, c, rfl⟩ := ho.form
  exact ⟨A, c, rfl, ho, hb⟩
theorem cell_oneS (w : World) (v : Value) (t : TypeId) : (w.alloc (.cells #[v] t)).cell? ⟨w.heap.size, 0, none⟩ = some v := by
  rw [World.cell?_alloc_at _ _ _ _ rfl]; rfl

set_option maxHeartbeats 1000000 in
theorem iLoopsOf_c (A : Option Addr) (c : Nat) (f : List Int) (w : World) (hR : RdA w A f) (hn : f.length ≤ 1048577) :
    Calls Try.prog 68 #[.slice A f.length c] w (RetRR w (loopsLL f)) := by
  have c1 := iMapOk_c A c f w hR hn
  by_cases hf : mapOkB f = true
  · rw [hf] at c1
    have HE := hid (show loopsLL f = loopsK f f.length from if_pos hf)
    have HG := hid (good_of hf)
    have h7 := (good_of hf).1.2
    have C2 := hid (fun (t : Int) W (hb : Below w.heap.size w W) => iLoopOf_c A c f t W (hR.below hb) hn)
    have C3 := hid (fun (t : Int) W (hb : Below w.heap.size w W) => iWayFrom_c A c f t W (hR.below hb) hn)
    clear hf hR
    go_enter Try.func68, Try.ntmps68
    go_wp2_with fail
    refine c1.mono ?_; rintro e w' ⟨rfl, rfl⟩
    clear c1
    go_wp2_with fail
    go_loopw [3, 10] (fun v i wr => ∃ k : Nat, k ≤ f.length ∧ i = .int .i64 k ∧ OwnRR w.heap.size wr v (loopsK f k) ∧ Below w.heap.size w wr) (fun _ i _ => f.length - (intOf i).toNat)
    case atStart => exact ⟨0, Nat.zero_le _, rfl, OwnRR.nil _ _, Below.refl _ _⟩
    case round =>
      obtain ⟨k, hk, rfl, ho, hb⟩ := hrel
      by_cases hlt : k < f.length
      · have c2 := C2.out k wr hb
        rw [lotV_yes (th_of HG.out hlt)] at c2
        have HLEN := hid (loopsK_len f k)
        by_cases hlk : loopOf f k = k
        · have HS := hid (show loopsK f (k + 1) = loopsK f k ++ [ints (way f k)] by rw [loopsK, if_pos hlk])
          rw [hlk] at c2
          have K3 := hid (fun W hb => C3.out (k : Int) W hb)
          rw [wayL_yes (th_of HG.out hlt)] at K3
          generalize loopsK f k = M at *
          generalize ints (way f k) = Z at *
          clear C2 C3 hlk
          go_wp2_with fail
          refine c2.mono ?_; rintro e w2 ⟨rfl, hb2⟩
          have hb2' := hb.trans (hb2.mono hb.size)
          have k3 := hid (K3.out w2 hb2')
          clear K3
          go_wp2_with fail
          refine k3.out.mono ?_; rintro e w3 ⟨D, d, rfl, hz, hb3⟩
          have hb3' := hb2'.trans (hb3.mono hb2'.size)
          have ho3 := (ho.below (hb2.mono (Nat.le_refl _))).below (hb3.mono (Nat.le_refl _))
          have hz3 := hz.mono hb2'.size
          have hsz := hb3'.size
          go_wp2_with (at_builtin; refine wpList_appR _ rfl _ _ rfl w.heap.size _ M rfl (ho3.alloc _) w3.heap.size D d Z (hz3.alloc _) rfl (cell_oneS _ _ _) (by have := HLEN.out; omega) (by simp <;> omega) ?_; intro A4 c4 w4 o4 b4)
          have b4' : Below w.heap.size w w4 := (hb3'.alloc hsz _).trans b4
          clear b4 ho ho3 hz hz3
          go_wp2_with fail
          go_roundw
          case rel => exact ⟨k + 1, by omega, by go_num, by rw [HS.out]; exact o4, b4'⟩
          case measure => simp [intOf]; omega
        · have HS := hid (show loopsK f (k + 1) = loopsK f k by rw [loopsK, if_neg hlk])
          have q : ((loopOf f k : Int) == (k : Int)) = false := by simp; omega
          generalize loopsK f k = M at *
          generalize loopOf f k = T at *
          clear C2 C3 hlk
          go_wp2_with fail
          refine c2.mono ?_; rintro e w2 ⟨rfl, hb2⟩
          go_wp2_with fail
          go_roundw
          case rel => exact ⟨k + 1, by omega, by go_num, by rw [HS.out]; exact ho.below (hb2.mono (Nat.le_refl _)), hb.trans (hb2.mono hb.size)⟩
          case measure => simp [intOf]; omega
      · obtain rfl : k = f.length := by omega
        clear C2 C3
        rw [← HE.out] at ho
        obtain ⟨A4, c4, rfl⟩ := ho.form
        go_wp2_with fail
        go_ret
        exact retRR_own ho hb
  · have HE := hid (show loopsLL f = [] from if_neg hf)
    rw [show mapOkB f = false by simpa using hf] at c1
    clear hf hR
    go_enter Try.func68, Try.ntmps68
    go_wp2_with fail
    refine c1.mono ?_; rintro e w' ⟨rfl, rfl⟩
    go_wp2_with fail
    go_ret
    rw [HE.out]
    exact retRR_own (OwnRR.nil _ _) (Below.refl _ _)

set_option maxHeartbeats 1000000 in
theorem sLoopsOf_c (A : Option Addr) (c : Nat) (f : List Int) (w : World) (hR : RdA w A f) (hn : f.length ≤ 1048577) :
    Calls Try.prog 69 #[.slice A f.length c] w (RetRR w (loopsLL f)) := by
  have o0 := OwnRR.new_ w
  have b0 : Below w.heap.size w (w.alloc (.cells #[] 22)) := (Below.refl _ _).alloc (Nat.le_refl _) _
  have C1 := hid (fun W (hb : Below w.heap.size w W) => sMapOk_c A c f W (hR.below hb) hn)
  by_cases hf : mapOkB f = true
  · rw [hf] at C1
    have HE := hid (show loopsLL f = loopsK f f.length from if_pos hf)
    have HG := hid (good_of hf)
    have h7 := (good_of hf).1.2
    have C2 := hid (fun (t : Int) W (hb : Below w.heap.size w W) => sLoopOf_c A c f t W (hR.below hb) hn)
    have C3 := hid (fun (t : Int) W (hb : Below w.heap.size w W) => sWayFrom_c A c f t W (hR.below hb) hn)
    have C5 := hid (fun (t : Int) W (hb : Below w.heap.size w W) => sOnLoop_c A c f t W (hR.below hb) hn)
    clear hf hR
    go_enter Try.func69, Try.ntmps69
    go_wp2_with fail
    go_loopw [3, 4] (fun v i wr => ∃ k : Nat, k ≤ f.length ∧ i = .int .i64 k ∧ OwnRR w.heap.size wr v (loopsK f k) ∧ Below w.heap.size w wr) (fun _ i _ => f.length - (intOf i).toNat)
    case atStart => exact ⟨0, Nat.zero_le _, rfl, o0, b0⟩
    case round =>
      clear o0 b0
      obtain ⟨k, hk, rfl, ho, hb⟩ := hrel
      have K1 := hid (C1.out wr hb)
      by_cases hlt : k < f.length
      · have c5 := C5.out k wr hb
        rw [tailV_yes (th_of HG.out hlt)] at c5
        have K2 := hid (fun W hb => C2.out (k : Int) W hb)
        rw [lotV_yes (th_of HG.out hlt)] at K2
        have HLEN := hid (loopsK_len f k)
        by_cases hlk : loopOf f k = k
        · have HS := hid (show loopsK f (k + 1) = loopsK f k ++ [ints (way f k)] by rw [loopsK, if_pos hlk])
          rw [hlk] at K2
          rw [loopOf_self HG.out hlt hlk] at c5
          have K3 := hid (fun W hb => C3.out (k : Int) W hb)
          rw [wayL_yes (th_of HG.out hlt)] at K3
          generalize loopsK f k = M at *
          generalize ints (way f k) = Z at *
          clear C1 C2 C3 C5 hlk
          go_wp2_with fail
          refine K1.out.mono ?_; rintro e w' ⟨rfl, rfl⟩
          go_wp2_with fail
          refine c5.mono ?_; rintro e w1 ⟨rfl, hb1⟩
          have hb1' := hb.trans (hb1.mono hb.size)
          have k2 := hid (K2.out w1 hb1')
          clear K2
          go_wp2_with fail
          refine k2.out.mono ?_; rintro e w2 ⟨rfl, hb2⟩
          have hb2' := hb1'.trans (hb2.mono hb1'.size)
          have k3 := hid (K3.out w2 hb2')
          clear K3 k2
          go_wp2_with fail
          refine k3.out.mono ?_; rintro e w3 ⟨D, d, rfl, hz, hb3⟩
          have hb3' := hb2'.trans (hb3.mono hb2'.size)
          have ho3 := ((ho.below (hb1.mono (Nat.le_refl _))).below (hb2.mono (Nat.le_refl _))).below (hb3.mono (Nat.le_refl _))
          have hz3 := hz.mono hb2'.size
          have hsz := hb3'.size
          go_wp2_with (at_builtin; refine wpList_appR _ rfl _ _ rfl w.heap.size _ M rfl (ho3.alloc _) w3.heap.size D d Z (hz3.alloc _) rfl (cell_oneS _ _ _) (by have := HLEN.out; omega) (by simp <;> omega) ?_; intro A4 c4 w4 o4 b4)
          have b4' : Below w.heap.size w w4 := (hb3'.alloc hsz _).trans b4
          clear b4 ho ho3 hz hz3
          go_wp2_with fail
          go_roundw
          case rel => exact ⟨k + 1, by omega, by go_num, by rw [HS.out]; exact o4, b4'⟩
          case measure => simp [intOf]; omega
        · have HS := hid (show loopsK f (k + 1) = loopsK f k by rw [loopsK, if_neg hlk])
          have q : ((loopOf f k : Int) == (k : Int)) = false := by simp; omega
          by_cases ht : tail f k = 0
          · rw [ht] at c5
            generalize loopsK f k = M at *
            generalize loopOf f k = T at *
            clear C1 C2 C3 C5 hlk ht
            go_wp2_with fail
            refine K1.out.mono ?_; rintro e w' ⟨rfl, rfl⟩
            go_wp2_with fail
            refine c5.mono ?_; rintro e w1 ⟨rfl, hb1⟩
            have hb1' := hb.trans (hb1.mono hb.size)
            have k2 := hid (K2.out w1 hb1')
            clear K2
            go_wp2_with fail
            refine k2.out.mono ?_; rintro e w2 ⟨rfl, hb2⟩
            go_wp2_with fail
            go_roundw
            case rel => exact ⟨k + 1, by omega, by go_num, by rw [HS.out]; exact (ho.below (hb1.mono (Nat.le_refl _))).below (hb2.mono (Nat.le_refl _)), hb1'.trans (hb2.mono hb1'.size)⟩
            case measure => simp [intOf]; omega
          · have q2 : ((tail f k : Int) == 0) = false := by simp; omega
            generalize loopsK f k = M at *
            generalize loopOf f k = T at *
            generalize tail f k = U at *
            clear C1 C2 C3 C5 hlk ht K2
            go_wp2_with fail
            refine K1.out.mono ?_; rintro e w' ⟨rfl, rfl⟩
            go_wp2_with fail
            refine c5.mono ?_; rintro e w1 ⟨rfl, hb1⟩
            have hb1' := hb.trans (hb1.mono hb.size)
            go_wp2_with fail
            go_roundw
            case rel => exact ⟨k + 1, by omega, by go_num, by rw [HS.out]; exact ho.below (hb1.mono (Nat.le_refl _)), hb1'⟩
            case measure => simp [intOf]; omega
      · obtain rfl : k = f.length := by omega
        clear C1 C2 C3 C5
        rw [← HE.out] at ho
        obtain ⟨A4, c4, rfl⟩ := ho.form
        go_wp2_with fail
        go_ret
        exact retRR_own ho hb
  · have HE := hid (show loopsLL f = [] from if_neg hf)
    rw [show mapOkB f = false by simpa using hf] at C1
    have K1 := hid (C1.out _ b0)
    clear hf hR C1
    by_cases h0 : 0 < f.length
    · go_enter Try.func69, Try.ntmps69
      go_wp2_with fail
      refine wp_loop_rounds 1 ?_
      rw [rounds_succ]
      go_wp2_with fail
      refine K1.out.mono ?_; rintro e w' ⟨rfl, rfl⟩
      go_wp2_with fail
      go_ret
      rw [HE.out]
      exact retRR_own o0 b0
    · have q1 : decide ((0 : Int) < (f.length : Int)) = false := decide_eq_false (by omega)
      have q0 : decide (0 < f.length) = false := decide_eq_false (by omega)
      clear h0
      go_enter Try.func69, Try.ntmps69
      go_wp2_with fail
      refine wp_loop_rounds 1 ?_
      rw [rounds_succ]
      go_wp2_with fail
      go_ret
      rw [HE.out]
      exact retRR_own o0 b0

end Go.Proofs.Ytkbfcaaihellfaa

/- Contracts of chapter 5: loops of each length. -/
namespace Go.Proofs.Ytkbfcaaihellfaa
open Go.RowKit
set_option linter.unusedVariables false

theorem OwnRR.kept {B : Nat} {w w' : World} {v : Value} {xss : List (List Int)} {g : Nat} (h : OwnRR B w v xss) (hg : w.grownBy w' (some g)) (hB : g < B) : OwnRR B w' v xss := by
  obtain ⟨vs, hr, he⟩ := h
  refine ⟨vs, ?_, he.kept hg fun u xs ho => ?_⟩
  · rcases hv : v.ownBlock with _ | k
    · exact World.ownsRow.kept hr hg (.inl hv)
    · have := (World.ownsRow.lt hr k hv).1
      exact World.ownsRow.kept hr hg (.inr (by rw [hv]; intro e; injection e with e; omega))
  · rcases hv : u.ownBlock with _ | k
    · exact .inl rfl
    · have := (ho.lt k hv).1
      exact .inr (by intro e; injection e with e; omega)
theorem gl_app_lt {xss : List (List Int)} {z : List Int} {k : Nat} (h : k < xss.length) : gl (xss ++ [z]) k = gl xss k := by simp [gl, List.getD, List.getElem?_append_left h]
theorem gl_app_end (xss : List (List Int)) (z : List Int) : gl (xss ++ [z]) xss.length = z := by simp [gl, List.getD]
theorem loopsK_mem (f : List Int) : ∀ k j, j < (loopsK f k).length → ∃ t, t < k ∧ loopOf f t = t ∧ gl (loopsK f k) j = ints (way f t)
  | 0, j, h => by simp [loopsK] at h
  | k + 1, j, h => by
    rw [loopsK] at h ⊢
    by_cases e : loopOf f k = k
    · rw [if_pos e] at h ⊢
      rw [List.length_append] at h
      by_cases hj : j < (loopsK f k).length
      · obtain ⟨t, h1, h2, h3⟩ := loopsK_mem f k j hj
        exact ⟨t, by omega, h2, by rw [gl_app_lt hj]; exact h3⟩
      · obtain rfl : j = (loopsK f k).length := by simp at h; omega
        exact ⟨k, by omega, e, gl_app_end _ _⟩
    · rw [if_neg e] at h ⊢
      obtain ⟨t, h1, h2, h3⟩ := loopsK_mem f k j h
      exact ⟨t, by omega, h2, h3⟩
theorem loops_long {f : List Int} (hf : Good f) {j : Nat} (h : j < (loopsLL f).length) : 1 ≤ (gl (loopsLL f) j).length ∧ (gl (loopsLL f) j).length ≤ f.length := by
  rw [loopsLL, if_pos (ok_of hf)] at h ⊢
  obtain ⟨t, h1, _, h3⟩ := loopsK_mem f _ j h
  rw [h3, way_len]
  exact ⟨rho_pos hf h1, rho_le hf h1⟩
/-- the loops counted by length, behind j of them -/
def kk (n : Nat) (xss : List (List Int)) : Nat → List Int
  | 0 => List.replicate n 0
  | j + 1 => (kk n xss j).set ((gl xss j).length - 1) (nth (kk n xss j) ((gl xss j).length - 1) + 1)
def kindsL (f : List Int) : List Int := if mapOkB f = true then kk f.length (loopsLL f) (loopsLL f).length else []
theorem kk_len (n : Nat) (xss : List (List Int)) : ∀ j, (kk n xss j).length = n
  | 0 => by simp [kk]
  | j + 1 => by rw [kk, List.length_set, kk_len n xss j]
theorem nth_set (xs : List Int) (i k : Nat) (z : Int) : nth (xs.set i z) k = if i = k ∧ i < xs.length then z else nth xs k := by
  by_cases e : i = k
  · subst e
    by_cases h : i < xs.length
    · simp [nth, h]
    · simp [nth, h]
  · simp [nth, e]
theorem kk_range (n : Nat) (xss : List (List Int)) : ∀ j p, 0 ≤ nth (kk n xss j) p ∧ nth (kk n xss j) p ≤ j
  | 0, p => by
    have : nth (List.replicate n (0 : Int)) p = 0 := by
      by_cases h : p < n <;> simp [nth, h]
    rw [kk, this]; omega
  | j + 1, p => by
    rw [kk, nth_set]
    have h1 := kk_range n xss j p
    have h2 := kk_range n xss j ((gl xss j).length - 1)
    split <;> omega
theorem loopsLL_len (f : List Int) (h : f.length ≤ 7) : (loopsLL f).length ≤ 7 := by
  unfold loopsLL
  split
  · have := loopsK_len f f.length; omega
  · simp

theorem kinds_len (f : List Int) (h : f.length ≤ 1048577) : (kindsL f).length ≤ 1048577 := by
  unfold kindsL
  split
  · rw [kk_len]; omega
  · simp

set_option maxHeartbeats 1000000 in
theorem iLoopKinds_c (A : Option Addr) (c : Nat) (f : List Int) (w : World) (hR : RdA w A f) (hn : f.length ≤ 1048577) :
    Calls Try.prog 52 #[.slice A f.length c] w (RetI w (kindsL f)) := by
  have c1 := iMapOk_c A c f w hR hn
  by_cases hf : mapOkB f = true
  · rw [hf] at c1
    have HE := hid (show kindsL f = kk f.length (loopsLL f) (loopsLL f).length from if_pos hf)
    have HG := hid (good_of hf)
    have h7 := (good_of hf).1.2
    have h1 := (good_of hf).1.1
    have C2 := hid (fun W (hb : Below w.heap.size w W) => iLoopsOf_c A c f W (hR.below hb) hn)
    have HLO := hid (fun j (h : j < (loopsLL f).length) => loops_long HG.out h)
    have hle := loopsLL_len f h7
    clear hf hR
    generalize loopsLL f = L at *
    go_enter Try.func52, Try.ntmps52
    go_wp2_with fail
    refine c1.mono ?_; rintro e w' ⟨rfl, rfl⟩
    clear c1
    go_wp2_with (at_make; refine wpList_mk _ rfl _ _ rfl _ f.length rfl rfl rfl (by omega) ?_; intro w1 hown hb)
    have k2 := hid (C2.out w1 hb)
    clear C2
    go_wp2_with fail
    refine k2.out.mono ?_; rintro e w2 ⟨D, d, rfl, hrr, hb2⟩
    have hG := hown.ge.2
    have hown2 := hown.below hb2
    have hb2' := hb.trans (hb2.mono hb.size)
    clear k2 hown hb hb2
    go_wp2_with fail
    go_loopw [15] (fun i wr => ∃ k : Nat, k ≤ L.length ∧ i = .int .i64 k ∧ Own w.heap.size wr (.slice (some ⟨w.heap.size, 0, none⟩) f.length f.length) (kk f.length L k) ∧ OwnRR w1.heap.size wr (.slice D L.length d) L ∧ Below w.heap.size w wr) (fun i _ => L.length - (intOf i).toNat)
    case atStart => exact ⟨0, Nat.zero_le _, rfl, hown2, hrr, hb2'⟩
    case round =>
      clear hown2 hrr hb2'
      obtain ⟨k, hk, rfl, hown, hrr, hb⟩ := hrel
      by_cases hlt : k < L.length
      · obtain ⟨g, E, e0, rfl, hg, hc, -⟩ := hrr.at_ hlt
        obtain ⟨hl1, hl2⟩ := HLO.out k hlt
        have hr := kk_range f.length L k ((gl L k).length - 1)
        have hc2 := hown.cell (k := (gl L k).length - 1) (by rw [kk_len]; omega)
        have hf2 := hown.frozen ((gl L k).length - 1)
        have hs := hown.store ((gl L k).length - 1) (nth (kk f.length L k) ((gl L k).length - 1) + 1)
        rw [show (kk f.length L k).set ((gl L k).length - 1) (nth (kk f.length L k) ((gl L k).length - 1) + 1) = kk f.length L (k + 1) from rfl] at hs
        have hbs := hb.setCell (p := ⟨w.heap.size, (gl L k).length - 1, none⟩) (Nat.le_refl _) (.int .i64 (nth (kk f.length L k) ((gl L k).length - 1) + 1))
        have hrs := hrr.kept (grown_store (World.grownBy.refl _ _) ((gl L k).length - 1) (.int .i64 (nth (kk f.length L k) ((gl L k).length - 1) + 1))) hG
        have q0 : (((gl L k).length : Int) - 1) = (((gl L k).length - 1 : Nat) : Int) := by omega
        have q1 : IntKind.i64.wrap (((gl L k).length : Int) - 1) = (((gl L k).length - 1 : Nat) : Int) := by rw [IntWalk.i64_in _ (by omega)]; omega
        have q3 : (gl L k).length - 1 < f.length := by omega
        clear hown hb hrr
        generalize nth (kk f.length L k) ((gl L k).length - 1) = X at *
        generalize (gl L k).length - 1 = P at *
        generalize (gl L k).length = Z at *
        go_wp2
        go_roundw
        case rel => exact ⟨k + 1, by omega, by go_num, hs, hrs, hbs⟩
        case measure => simp [intOf]; omega
      · obtain rfl : k = L.length := by omega
        rw [← HE.out] at hown
        go_wp2_with fail
        go_ret
        exact retI_own hown hb
  · have HE := hid (show kindsL f = [] from if_neg hf)
    rw [show mapOkB f = false by simpa using hf] at c1
    clear hf hR
    go_enter Try.func52, Try.ntmps52
    go_wp2_with fail
    refine c1.mono ?_; rintro e w' ⟨rfl, rfl⟩
    go_wp2_with fail
    go_ret
    rw [HE.out]
    exact retI_own (Own.nil _ _) (Below.refl _ _)

set_option maxHeartbeats 1000000 in
theorem sLoopKinds_c (A : Option Addr) (c : Nat) (f : List Int) (w : World) (hR : RdA w A f) (hn : f.length ≤ 1048577) :
    Calls Try.prog 53 #[.slice A f.length c] w (RetI w (kindsL f)) := by
  have c1 := sMapOk_c A c f w hR hn
  by_cases hf : mapOkB f = true
  · rw [hf] at c1
    have HE := hid (show kindsL f = kk f.length (loopsLL f) (loopsLL f).length from if_pos hf)
    have HG := hid (good_of hf)
    have h7 := (good_of hf).1.2
    have h1 := (good_of hf).1.1
    have C2 := hid (fun W (hb : Below w.heap.size w W) => sLoopsOf_c A c f W (hR.below hb) hn)
    have HLO := hid (fun j (h : j < (loopsLL f).length) => loops_long HG.out h)
    have hle := loopsLL_len f h7
    clear hf hR
    generalize loopsLL f = L at *
    go_enter Try.func53, Try.ntmps53
    go_wp2_with fail
    refine c1.mono ?_; rintro e w' ⟨rfl, rfl⟩
    clear c1
    go_wp2_with (at_make; refine wpList_mk _ rfl _ _ rfl _ f.length rfl rfl rfl (by omega) ?_; intro w1 hown hb)
    have k2 := hid (C2.out w1 hb)
    clear C2
    go_wp2_with fail
    refine k2.out.mono ?_; rintro e w2 ⟨D, d, rfl, hrr, hb2⟩
    have hG := hown.ge.2
    have hown2 := hown.below hb2
    have hb2' := hb.trans (hb2.mono hb.size)
    clear k2 hown hb hb2
    go_wp2_with fail
    go_loopw [5] (fun i wr => ∃ k : Nat, k ≤ L.length ∧ i = .int .i64 k ∧ Own w.heap.size wr (.slice (some ⟨w.heap.size, 0, none⟩) f.length f.length) (kk f.length L k) ∧ OwnRR w1.heap.size wr (.slice D L.length d) L ∧ Below w.heap.size w wr) (fun i _ => L.length - (intOf i).toNat)
    case atStart => exact ⟨0, Nat.zero_le _, rfl, hown2, hrr, hb2'⟩
    case round =>
      clear hown2 hrr hb2'
      obtain ⟨k, hk, rfl, hown, hrr, hb⟩ := hrel
      by_cases hlt : k < L.length
      · obtain ⟨g, E, e0, rfl, hg, hc, -⟩ := hrr.at_ hlt
        obtain ⟨hl1, hl2⟩ := HLO.out k hlt
        have hr := kk_range f.length L k ((gl L k).length - 1)
        have hc2 := hown.cell (k := (gl L k).length - 1) (by rw [kk_len]; omega)
        have hf2 := hown.frozen ((gl L k).length - 1)
        have hs := hown.store ((gl L k).length - 1) (nth (kk f.length L k) ((gl L k).length - 1) + 1)
        rw [show (kk f.length L k).set ((gl L k).length - 1) (nth (kk f.length L k) ((gl L k).length - 1) + 1) = kk f.length L (k + 1) from rfl] at hs
        have hbs := hb.setCell (p := ⟨w.heap.size, (gl L k).length - 1, none⟩) (Nat.le_refl _) (.int .i64 (nth (kk f.length L k) ((gl L k).length - 1) + 1))
        have hrs := hrr.kept (grown_store (World.grownBy.refl _ _) ((gl L k).length - 1) (.int .i64 (nth (kk f.length L k) ((gl L k).length - 1) + 1))) hG
        have q0 : (((gl L k).length : Int) - 1) = (((gl L k).length - 1 : Nat) : Int) := by omega
        have q1 : IntKind.i64.wrap (((gl L k).length : Int) - 1) = (((gl L k).length - 1 : Nat) : Int) := by rw [IntWalk.i64_in _ (by omega)]; omega
        have q3 : (gl L k).length - 1 < f.length := by omega
        clear hown hb hrr
        generalize nth (kk f.length L k) ((gl L k).length - 1) = X at *
        generalize (gl L k).length - 1 = P at *
        generalize (gl L k).length = Z at *
        go_wp2
        go_region
        all_goals go_wp2
        all_goals go_roundw
        case rel => exact ⟨k + 1, by omega, by go_num, by first | exact hs.drew | exact hs, by first | exact hrs.drew | exact hrs, by first | exact hbs.drew | exact hbs⟩
        case measure => simp [intOf]; omega
      · obtain rfl : k = L.length := by omega
        rw [← HE.out] at hown
        go_wp2_with fail
        go_ret
        exact retI_own hown hb
  · have HE := hid (show kindsL f = [] from if_neg hf)
    rw [show mapOkB f = false by simpa using hf] at c1
    clear hf hR
    go_enter Try.func53, Try.ntmps53
    go_wp2_with fail
    refine c1.mono ?_; rintro e w' ⟨rfl, rfl⟩
    go_wp2_with fail
    go_ret
    rw [HE.out]
    exact retI_own (own_empty w) ((Below.refl _ _).alloc (Nat.le_refl _) _)

end Go.Proofs.Ytkbfcaaihellfaa

/- Contracts of chapter 4: divisors, periods. -/
namespace Go.Proofs.Ytkbfcaaihellfaa
open Go.RowKit
set_option linter.unusedVariables false

/-- the least number that the lengths of the first j loops divide -/
def per (xss : List (List Int)) : Nat → Nat
  | 0 => 1
  | j + 1 => per xss j / Nat.gcd (per xss j) (gl xss j).length * (gl xss j).length
theorem per_bound (xss : List (List Int)) (h : ∀ j, j < xss.length → 1 ≤ (gl xss j).length ∧ (gl xss j).length ≤ 7) : ∀ j, j ≤ xss.length → 1 ≤ per xss j ∧ per xss j ≤ 7 ^ j
  | 0, _ => by simp [per]
  | j + 1, hj => by
    obtain ⟨h1, h2⟩ := per_bound xss h j (by omega)
    obtain ⟨h3, h4⟩ := h j (by omega)
    rw [per]
    have hd : Nat.gcd (per xss j) (gl xss j).length ∣ per xss j := Nat.gcd_dvd_left _ _
    have hq : 1 ≤ per xss j / Nat.gcd (per xss j) (gl xss j).length := Nat.div_pos (Nat.le_of_dvd h1 hd) (Nat.gcd_pos_of_pos_left _ h1)
    refine ⟨Nat.le_trans (by omega) (Nat.mul_le_mul hq h3), ?_⟩
    rw [Nat.pow_succ]
    exact Nat.mul_le_mul (Nat.le_trans (Nat.div_le_self _ _) h2) h4
def periodV (f : List Int) : Int := if mapOkB f = true then (per (loopsLL f) (loopsLL f).length : Int) else -1



theorem pow7 : ∀ j, j ≤ 7 → 7 ^ j ≤ 823543 := fun j hj => Nat.pow_le_pow_right (n := 7) (by omega) hj


end Go.Proofs.Ytkbfcaaihellfaa
