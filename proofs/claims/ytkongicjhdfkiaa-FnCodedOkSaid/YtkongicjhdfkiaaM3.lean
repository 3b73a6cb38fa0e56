/- Contracts: CodedOk, CentreOf. -/
import Derived.Test.YtkongicjhdfkiaaM2
import Derived.Test.YtkongicjhdfkiaaA1
namespace Go.Proofs.Ytkongicjhdfkiaa
open Go.RowKit
set_option linter.unusedVariables false

def codedB (xs : List Int) : Bool := decide (xs.length < 7) && xs.all fun x => decide (0 ≤ x) && decide (x ≤ xs.length)
theorem codedB_no {xs : List Int} {k : Nat} (hk : k < xs.length) (h : ¬ (0 ≤ nth xs k ∧ nth xs k ≤ xs.length)) : codedB xs = false := by
  simp only [codedB, Bool.and_eq_false_iff]
  right
  rw [List.all_eq_false]
  exact ⟨_, nth_mem hk, by simpa using h⟩
theorem all_of_nth {xs : List Int} {p : Int → Prop} (h : ∀ k, k < xs.length → p (nth xs k)) : ∀ x ∈ xs, p x := by
  intro x hx
  obtain ⟨k, hk, rfl⟩ := List.getElem_of_mem hx
  rw [← nth_lt hk]
  exact h k hk
theorem codedB_all {xs : List Int} (h : ∀ k, k < xs.length → 0 ≤ nth xs k ∧ nth xs k ≤ xs.length) : codedB xs = decide (xs.length < 7) := by
  have := all_of_nth (p := fun x => 0 ≤ x ∧ x ≤ xs.length) h
  simp only [codedB]
  rw [List.all_eq_true.2 (fun x hx => by simpa using this x hx), Bool.and_true]
theorem codedB_elim {xs : List Int} (h : codedB xs = true) : xs.length < 7 ∧ ∀ k, k < xs.length → 0 ≤ nth xs k ∧ nth xs k ≤ xs.length := by
  simp only [codedB, Bool.and_eq_true, decide_eq_true_eq] at h
  refine ⟨h.1, fun k hk => ?_⟩
  have := List.all_eq_true.1 h.2 _ (nth_mem hk)
  simpa using this

theorem sCodedOk_c (A : Option Addr) (c : Nat) (xs : List Int) (w : World) (hR : RdA w A xs) (hn : xs.length ≤ 1048577) :
    Calls Try.prog 24 #[.slice A xs.length c] w fun e w' => e = .returned (.bool (codedB xs)) ∧ w = w' := by
  go_enter Try.func24, Try.ntmps24
  go_wp2_with fail
  go_loop [3] (fun i => ∃ k : Nat, k ≤ xs.length ∧ i = .int .i64 k ∧ Hid (∀ j, j < k → 0 ≤ nth xs j ∧ nth xs j ≤ xs.length)) (fun i => xs.length - (intOf i).toNat)
  case atStart => exact ⟨0, Nat.zero_le _, rfl, hid (fun j hj => by omega)⟩
  case round =>
    obtain ⟨k, hk, rfl, hall⟩ := hrel
    by_cases hlt : k < xs.length
    · obtain ⟨ad, rfl, hc⟩ := hR k hlt
      clear hR
      by_cases hx : 0 ≤ nth xs k ∧ nth xs k ≤ xs.length
      · go_wp2_with fail
        refine (l1In_t _ _ _ _ hx).mono ?_; rintro e w' ⟨rfl, rfl⟩
        have HX := hid hx
        clear hx
        go_wp2_with fail
        go_round
        case rel => exact ⟨k + 1, by omega, by go_num, hid (fun j hj => by rcases Nat.lt_succ_iff_lt_or_eq.1 hj with h | rfl; exact hall.out j h; exact HX.out)⟩
        case measure => simp [intOf]; omega
      · have HN := hid (codedB_no hlt hx)
        go_wp2_with fail
        refine (l1In_f _ _ _ _ hx).mono ?_; rintro e w' ⟨rfl, rfl⟩
        go_wp2_with fail
        go_ret
        exact ⟨ret_bool HN.out.symm, rfl⟩
    · obtain rfl : k = xs.length := by omega
      have HN := hid (codedB_all hall.out)
      clear hR
      go_wp2_with fail
      go_ret
      exact ⟨ret_bool (by rw [HN.out]; simp; omega), rfl⟩

theorem iCodedOk_c (A : Option Addr) (c : Nat) (xs : List Int) (w : World) (hR : RdA w A xs) (hn : xs.length ≤ 1048577) :
    Calls Try.prog 26 #[.slice A xs.length c] w fun e w' => e = .returned (.bool (codedB xs)) ∧ w = w' := by
  by_cases hl : xs.length < 7
  · go_enter Try.func26, Try.ntmps26
    go_wp2_with fail
    go_loop [10] (fun i => ∃ k : Nat, k ≤ xs.length ∧ i = .int .i64 k ∧ Hid (∀ j, j < k → 0 ≤ nth xs j ∧ nth xs j ≤ xs.length)) (fun i => xs.length - (intOf i).toNat)
    case atStart => exact ⟨0, Nat.zero_le _, rfl, hid (fun j hj => by omega)⟩
    case round =>
      obtain ⟨k, hk, rfl, hall⟩ := hrel
      by_cases hlt : k < xs.length
      · obtain ⟨ad, rfl, hc⟩ := hR k hlt
        clear hR
        by_cases hx : 0 ≤ nth xs k ∧ nth xs k ≤ xs.length
        · go_wp2_with fail
          refine (within_t _ _ _ _ hx).mono ?_; rintro e w' ⟨rfl, rfl⟩
          have HX := hid hx
          clear hx
          go_wp2_with fail
          go_round
          case rel => exact ⟨k + 1, by omega, by go_num, hid (fun j hj => by rcases Nat.lt_succ_iff_lt_or_eq.1 hj with h | rfl; exact hall.out j h; exact HX.out)⟩
          case measure => simp [intOf]; omega
        · have HN := hid (codedB_no hlt hx)
          go_wp2_with fail
          refine (within_f _ _ _ _ hx).mono ?_; rintro e w' ⟨rfl, rfl⟩
          go_wp2_with fail
          go_ret
          exact ⟨ret_bool HN.out.symm, rfl⟩
      · obtain rfl : k = xs.length := by omega
        have HN := hid (codedB_all hall.out)
        clear hR
        go_wp2_with fail
        go_ret
        exact ⟨ret_bool (by rw [HN.out]; simp [hl]), rfl⟩
  · have HN := hid (show codedB xs = false by simp [codedB, hl])
    have h6 : 6 < xs.length := by omega
    clear hl hR
    go_enter Try.func26, Try.ntmps26
    go_wp2_with fail
    go_ret
    exact ⟨ret_bool HN.out.symm, rfl⟩

/-! ### CentreOf -/
def centT (xs : List Int) (k : Nat) : List Int := (List.range (xs.length + 1)).map fun (i : Nat) => ((xs.take k).count (i : Int) : Int)
theorem centT_len (xs : List Int) (k : Nat) : (centT xs k).length = xs.length + 1 := by simp [centT]
theorem centT_nth {xs : List Int} {k i : Nat} (hi : i < xs.length + 1) : nth (centT xs k) i = ((xs.take k).count (i : Int) : Int) := by simp [nth, centT, hi]
theorem centT_zero (xs : List Int) : centT xs 0 = List.replicate (xs.length + 1) 0 := by
  apply List.ext_getElem
  · simp [centT]
  · intro i h1 h2
    simp [centT]
theorem centT_set {xs : List Int} {k Z : Nat} (hk : k < xs.length) (hz : nth xs k = (Z : Int)) (hZ : Z < xs.length + 1) : (centT xs k).set Z (nth (centT xs k) Z + 1) = centT xs (k + 1) := by
  apply List.ext_getElem
  · simp [centT]
  · intro i h1 h2
    rw [List.length_set, centT_len] at h1
    rw [List.getElem_set, ← nth_lt (by rw [centT_len]; omega), ← nth_lt (by rw [centT_len]; omega), centT_nth h1, centT_nth hZ, centT_nth h1, take_nth hk, hz, List.count_append]
    by_cases e : Z = i
    · subst e
      simp
    · rw [if_neg e]
      have : (i : Int) ≠ (Z : Int) := by omega
      simp [Ne.symm this]
theorem centT_bd (xs : List Int) (k i : Nat) : 0 ≤ nth (centT xs k) i ∧ nth (centT xs k) i ≤ xs.length := by
  by_cases hi : i < xs.length + 1
  · rw [centT_nth hi]
    have h1 := List.count_le_length (a := (i : Int)) (l := xs.take k)
    have h2 := List.length_take_le k xs
    have h3 : (xs.take k).length ≤ xs.length := by rw [List.length_take]; omega
    omega
  · have : nth (centT xs k) i = 0 := by unfold nth; rw [List.getElem?_eq_none (by rw [centT_len]; omega)]; rfl
    omega

def centreL (xs : List Int) : List Int := if codedB xs = true then centT xs xs.length else []

set_option maxHeartbeats 400000 in
theorem iCentreOf_c (A : Option Addr) (c : Nat) (xs : List Int) (w : World) (hR : RdA w A xs) (hn : xs.length ≤ 1048577) :
    Calls Try.prog 45 #[.slice A xs.length c] w (RetI w (centreL xs)) := by
  have hcal := iCodedOk_c A c xs w hR hn
  by_cases hcd : codedB xs = true
  · have HE := hid (show centreL xs = centT xs xs.length by unfold centreL; rw [if_pos hcd])
    obtain ⟨h7, hbd⟩ := codedB_elim hcd
    rw [hcd] at hcal
    have HBD := hid hbd
    clear hcd hbd
    go_enter Try.func45, Try.ntmps45
    go_wp2_with fail
    refine hcal.mono ?_; rintro e w' ⟨rfl, rfl⟩
    go_wp2_with (at_make; refine wpList_mk _ rfl _ _ rfl _ (xs.length + 1) rfl rfl (by omega) (by omega) ?_; intro w1 hown hb)
    go_loopw [15] (fun i wr => ∃ k : Nat, k ≤ xs.length ∧ i = .int .i64 k ∧ Own w.heap.size wr (.slice (some ⟨w.heap.size, 0, none⟩) (xs.length + 1) (xs.length + 1)) (centT xs k) ∧ Below w.heap.size w wr) (fun i _ => xs.length - (intOf i).toNat)
    case atStart => exact ⟨0, Nat.zero_le _, rfl, by rw [centT_zero]; exact hown, hb⟩
    case round =>
      clear hown hb
      obtain ⟨k, hk, rfl, hown, hb⟩ := hrel
      by_cases hlt : k < xs.length
      · obtain ⟨ad, rfl, hc⟩ := (hR.below hb) k hlt
        obtain ⟨Z, hz⟩ := Int.eq_ofNat_of_zero_le (HBD.out k hlt).1
        have hZ : Z < xs.length + 1 := by have := (HBD.out k hlt).2; omega
        have hc2 := hown.cell (k := Z) (by rw [centT_len]; exact hZ)
        have hf2 := hown.frozen Z
        have hs := hown.store Z (nth (centT xs k) Z + 1)
        rw [centT_set hlt hz hZ] at hs
        have hbs := hb.setCell (p := ⟨w.heap.size, Z, none⟩) (Nat.le_refl _) (.int .i64 (nth (centT xs k) Z + 1))
        have hy := centT_bd xs k Z
        have HS := hid (And.intro hs hbs)
        rw [hz] at hc
        clear hs hbs hown hb hR hcal hz
        generalize nth (centT xs k) Z = y at *
        go_wp2
        go_roundw
        case rel => exact ⟨k + 1, by omega, by go_num, HS.out.1, HS.out.2⟩
        case measure => simp [intOf]; omega
      · obtain rfl : k = xs.length := by omega
        have HS := hid (And.intro hown hb)
        clear hown hb hR hcal
        go_wp2
        go_ret
        rw [HE.out]
        refine ⟨some ⟨w.heap.size, 0, none⟩, xs.length + 1, by rw [centT_len]; simp, ?_, HS.out.2⟩
        rw [centT_len]
        exact HS.out.1
  · have hcf : codedB xs = false := by simpa using hcd
    have HE := hid (show centreL xs = [] by unfold centreL; rw [if_neg hcd])
    rw [hcf] at hcal
    clear hcd hcf hR
    go_enter Try.func45, Try.ntmps45
    go_wp2_with fail
    refine hcal.mono ?_; rintro e w' ⟨rfl, rfl⟩
    go_wp2_with fail
    go_ret
    rw [HE.out]
    exact ⟨none, 0, rfl, Own.nil _ _, Below.refl _ _⟩

set_option maxHeartbeats 400000 in
theorem sCentreOf_c (A : Option Addr) (c : Nat) (xs : List Int) (w : World) (hR : RdA w A xs) (hn : xs.length ≤ 1048577) :
    Calls Try.prog 44 #[.slice A xs.length c] w (RetI w (centreL xs)) := by
  have hcal := sCodedOk_c A c xs w hR hn
  by_cases hcd : codedB xs = true
  · have HE := hid (show centreL xs = centT xs xs.length by unfold centreL; rw [if_pos hcd])
    obtain ⟨h7, hbd⟩ := codedB_elim hcd
    rw [hcd] at hcal
    have HBD := hid hbd
    clear hcd hbd
    go_enter Try.func44, Try.ntmps44
    go_wp2_with fail
    refine hcal.mono ?_; rintro e w' ⟨rfl, rfl⟩
    go_wp2_with (at_make; refine wpList_mk _ rfl _ _ rfl _ (xs.length + 1) rfl rfl (by omega) (by omega) ?_; intro w1 hown hb)
    go_loopw [4] (fun i wr => ∃ k : Nat, k ≤ xs.length ∧ i = .int .i64 k ∧ Own w.heap.size wr (.slice (some ⟨w.heap.size, 0, none⟩) (xs.length + 1) (xs.length + 1)) (centT xs k) ∧ Below w.heap.size w wr) (fun i _ => xs.length - (intOf i).toNat)
    case atStart => exact ⟨0, Nat.zero_le _, rfl, by rw [centT_zero]; exact hown, hb⟩
    case round =>
      clear hown hb
      obtain ⟨k, hk, rfl, hown, hb⟩ := hrel
      by_cases hlt : k < xs.length
      · obtain ⟨ad, rfl, hc⟩ := (hR.below hb) k hlt
        obtain ⟨Z, hz⟩ := Int.eq_ofNat_of_zero_le (HBD.out k hlt).1
        have hZ : Z < xs.length + 1 := by have := (HBD.out k hlt).2; omega
        have hc2 := hown.cell (k := Z) (by rw [centT_len]; exact hZ)
        have hf2 := hown.frozen Z
        have hs := hown.store Z (nth (centT xs k) Z + 1)
        rw [centT_set hlt hz hZ] at hs
        have hbs := hb.setCell (p := ⟨w.heap.size, Z, none⟩) (Nat.le_refl _) (.int .i64 (nth (centT xs k) Z + 1))
        have hy := centT_bd xs k Z
        have HS := hid (And.intro hs hbs)
        rw [hz] at hc
        clear hs hbs hown hb hR hcal hz
        generalize nth (centT xs k) Z = y at *
        go_wp2
        go_region
        all_goals go_wp2
        all_goals go_roundw
        case rel => exact ⟨k + 1, by omega, by go_num, HS.out.1.drew, HS.out.2.drew⟩
        case measure => simp [intOf]; omega
      · obtain rfl : k = xs.length := by omega
        have HS := hid (And.intro hown hb)
        clear hown hb hR hcal
        go_wp2
        go_ret
        rw [HE.out]
        refine ⟨some ⟨w.heap.size, 0, none⟩, xs.length + 1, by rw [centT_len]; simp, ?_, HS.out.2⟩
        rw [centT_len]
        exact HS.out.1
  · have hcf : codedB xs = false := by simpa using hcd
    have HE := hid (show centreL xs = [] by unfold centreL; rw [if_neg hcd])
    rw [hcf] at hcal
    clear hcd hcf hR
    go_enter Try.func44, Try.ntmps44
    go_wp2_with fail
    refine hcal.mono ?_; rintro e w' ⟨rfl, rfl⟩
    go_wp2_with fail
    go_ret
    rw [HE.out]
    exact ⟨some ⟨w.heap.size, 0, none⟩, 0, rfl, Own.new_ w [] #[] rfl (by decide), (Below.refl _ _).alloc (Nat.le_refl _) _⟩

end Go.Proofs.Ytkongicjhdfkiaa
