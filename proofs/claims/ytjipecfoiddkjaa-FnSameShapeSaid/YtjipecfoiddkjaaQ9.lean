/- Contracts of chapter 2: least things of loops, lots, heights. -/
import Derived.Test.YtjipecfoiddkjaaQ8
namespace Go.Proofs.Ytjipecfoiddkjaa
open Go.RowKit
set_option linter.unusedVariables false

def mm (xs : List Int) : Nat → Int
  | 0 => nth xs 0
  | k + 1 => if nth xs k < mm xs k then nth xs k else mm xs k
theorem mm_one (xs : List Int) : mm xs 1 = nth xs 0 := by simp [mm]
theorem mm_mem (xs : List Int) : ∀ k, ∃ j, j ≤ k - 1 ∧ mm xs k = nth xs j
  | 0 => ⟨0, by omega, rfl⟩
  | k + 1 => by
    obtain ⟨j, hj, e⟩ := mm_mem xs k
    by_cases h : nth xs k < mm xs k
    · exact ⟨k, by omega, by rw [mm, if_pos h]⟩
    · exact ⟨j, by omega, by rw [mm, if_neg h, e]⟩
theorem mm_le (xs : List Int) : ∀ k j, j < k → mm xs k ≤ nth xs j
  | 0, j, h => by omega
  | k + 1, j, h => by
    rw [mm]
    by_cases e : j = k
    · subst e; split <;> omega
    · have := mm_le xs k j (by omega)
      split <;> omega
theorem Own.cap {B : Nat} {w : World} {A : Option Addr} {n c : Nat} {xs : List Int} (h : Own B w (.slice A n c) xs) : n ≤ c ∧ c ≤ maxLen := by
  have hn : n = xs.length := Own.len h
  obtain ⟨_, ⟨e, _⟩ | ⟨g, cap, cur, e, _, _, h1, h2, _, _⟩⟩ := h
  · cases e; exact ⟨Nat.le_refl _, Nat.zero_le _⟩
  · cases e
    omega
theorem mm_ints {l : List Nat} (hl : l ≠ []) : mm (ints l) l.length = (minL l : Int) := by
  have h0 : 0 < l.length := List.length_pos_iff.2 hl
  obtain ⟨j, hj, e⟩ := mm_mem (ints l) l.length
  have hj' : j < l.length := by omega
  rw [nth_ints hj'] at e
  rw [e]
  have : minL l = l[j] := minL_eq (List.getElem_mem hj') fun x hx => by
    obtain ⟨i, hi, rfl⟩ := List.getElem_of_mem hx
    have := mm_le (ints l) l.length i hi
    rw [e, nth_ints hi] at this
    omega
  rw [this]

theorem min_c (A : Option Addr) (c : Nat) (xs : List Int) (w : World) (hR : RdA w A xs) (hn : xs.length ≤ 1048577) (h0 : 0 < xs.length) :
    Calls Try.prog 59 #[.slice A xs.length c] w fun e w' => e = .returned (.int .i64 (mm xs xs.length)) ∧ w = w' := by
  have HR := hid hR
  obtain ⟨ad, rfl, hc0⟩ := hR 0 h0
  have e0 : ad.add 0 = ad := by cases ad; simp [Addr.add]
  rw [e0] at hc0
  have H1 := hid (mm_one xs)
  clear hR e0
  go_enter Try.func59, Try.ntmps59
  go_wp2_with fail
  go_loop [3, 4] (fun m i => ∃ k : Nat, 1 ≤ k ∧ k ≤ xs.length ∧ i = .int .i64 k ∧ m = .int .i64 (mm xs k)) (fun _ i => xs.length - (intOf i).toNat)
  case atStart => exact ⟨1, by omega, by omega, rfl, by rw [H1.out]⟩
  case round =>
    obtain ⟨k, hk1, hk, rfl, rfl⟩ := hrel
    by_cases hlt : k < xs.length
    · obtain ⟨ad', ee, hc⟩ := HR.out k hlt
      cases ee
      have HS := hid (show mm xs (k + 1) = if nth xs k < mm xs k then nth xs k else mm xs k from rfl)
      clear hc0
      generalize mm xs k = M at *
      generalize nth xs k = X at *
      go_wp2_with fail
      go_round
      case rel => exact ⟨k + 1, by omega, by omega, by go_num, by rw [HS.out]⟩
      case measure => simp [intOf]; omega
    · obtain rfl : k = xs.length := by omega
      have HM := hid (show ∃ M, mm xs xs.length = M from ⟨_, rfl⟩)
      obtain ⟨M, hM⟩ := HM.out
      rw [hM]
      have KM := hid hM
      clear hM HM
      go_wp2_with fail
      go_ret
      exact ⟨ret_int KM.out.symm, rfl⟩

def lotV (f : List Int) (t : Int) : Int := if thB f t = true then (loopOf f t.toNat : Int) else -1
theorem lotV_yes {f : List Int} {n : Nat} (h : thB f n = true) : lotV f n = (loopOf f n : Int) := by rw [lotV, if_pos h]; rfl
theorem lotV_no {f : List Int} {t : Int} (h : ¬ thB f t = true) : lotV f t = -1 := by rw [lotV, if_neg h]

set_option maxHeartbeats 400000 in
theorem iLoopOf_c (A : Option Addr) (c : Nat) (f : List Int) (t : Int) (w : World) (hR : RdA w A f) (hn : f.length ≤ 1048577) :
    Calls Try.prog 41 #[.slice A f.length c, .int .i64 t] w fun e w' => e = .returned (.int .i64 (lotV f t)) ∧ Below w.heap.size w w' := by
  have c1 := thingOk_c A c f t w hR hn
  by_cases h : thB f t = true
  · obtain ⟨n, rfl, hlt, hf⟩ := th_nat h
    have c2 := iWayFrom_c A c f n w hR hn
    have HE := hid (lotV_yes h)
    have C3 := hid (fun W (hb : Below w.heap.size w W) => iTailOf_c A c f n W (hR.below hb) hn)
    rw [tailV_yes h] at C3
    rw [wayL_yes h] at c2
    have hr := rho_eq hf hlt
    have hl := rho_le hf hlt
    have hp := loop_pos hf hlt
    have h7 := hf.1.2
    have HW := hid (way_len f n)
    have HM := hid (show mm (ints (loopL f n)) (loopL f n).length = (loopOf f n : Int) from mm_ints (loopL_ne hf hlt))
    have HL := hid (show (ints (loopL f n)).length = loop f n by rw [ints_len, loopL_len])
    have HN := hid (show ∀ k, k < loop f n → nth (ints (loopL f n)) k = nth (ints (way f n)) (tail f n + k) from fun k hk => by
      have h1 : k < (loopL f n).length := by rw [loopL_len]; exact hk
      have h2 : tail f n + k < (way f n).length := by rw [way, walk_len]; omega
      rw [nth_ints h1, nth_ints h2]
      simp only [loopL, List.getElem_drop])
    have K2 := hid c2
    rw [h] at c1
    clear h hR hf c2
    go_enter Try.func41, Try.ntmps41
    go_wp2_with fail
    refine c1.mono ?_; rintro e w' ⟨rfl, rfl⟩
    go_wp2_with fail
    refine K2.out.mono ?_; rintro e w' ⟨B, d, rfl, ho, hb⟩
    rw [HW.out]
    obtain ⟨g, d', e2, _, _⟩ := ho.pos (by rw [HW.out]; omega)
    cases e2
    have hcap := ho.cap.1
    have hcap2 := ho.cap.2
    rw [HW.out] at hcap
    unfold maxLen at hcap2
    have c4 := C3.out w' hb
    clear C3 K2
    go_wp2_with fail
    refine c4.mono ?_; rintro e w2 ⟨rfl, hb2⟩
    have ho2 := ho.below (hb2.mono (Nat.le_refl _))
    have c5 := min_c (some ⟨g, tail f n, none⟩) (d - tail f n) (ints (loopL f n)) w2 (fun k hk => by
      rw [HL.out] at hk
      have := ho2.cell (k := tail f n + k) (by rw [HW.out]; omega)
      refine ⟨_, rfl, ?_⟩
      rw [HN.out k hk]
      by_cases k0 : k = 0
      · subst k0; simpa [Addr.add] using this
      · simpa [Addr.add, k0] using this) (by rw [HL.out]; omega) (by rw [HL.out]; omega)
    rw [HL.out] at c5
    have HM2 := HM
    rw [loopL_len] at HM2
    rw [HM2.out] at c5
    go_wp2_with fail
    refine c5.mono ?_; rintro e w3 ⟨rfl, rfl⟩
    go_wp2_with fail
    go_ret
    exact ⟨ret_int HE.out.symm, hb.trans (hb2.mono hb.size)⟩
  · have HE := hid (lotV_no h)
    rw [th_no h] at c1
    clear h hR
    go_enter Try.func41, Try.ntmps41
    go_wp2_with fail
    refine c1.mono ?_; rintro e w' ⟨rfl, rfl⟩
    go_wp2_with fail
    go_ret
    exact ⟨ret_int HE.out.symm, Below.refl _ _⟩

end Go.Proofs.Ytjipecfoiddkjaa
