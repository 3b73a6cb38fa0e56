/- Contracts of chapter 1 (and WithOk). -/
import Derived.Test.YtjipecfoiddkjaaM5
import Derived.Test.YtjipecfoiddkjaaP2
import Derived.Test.YtjipecfoiddkjaaA1
import Derived.WalkSpells
namespace Go.Proofs.Ytjipecfoiddkjaa
open Go.RowKit
set_option linter.unusedVariables false

set_option maxHeartbeats 400000 in
theorem sameInts_c (A B : Option Addr) (c d : Nat) (xs ys : List Int) (w : World) (hR : RdA w A xs) (hS : RdA w B ys) (hn : xs.length ≤ 1048577) (hm : ys.length ≤ 1048577) :
    Calls Try.prog 8 #[.slice A xs.length c, .slice B ys.length d] w fun e w' => e = .returned (.bool (decide (xs = ys))) ∧ Below w.heap.size w w' := by
  by_cases hl : xs.length = ys.length
  · have hl' : ((xs.length : Int) == (ys.length : Int)) = true := by simp [hl]
    have HL := hid hl
    have e1 : ys.length = xs.length := hl.symm
    rw [e1] at hl' hm ⊢
    clear e1 hl
    go_enter Try.func8, Try.ntmps8
    go_wp2
    go_loopw [5] (fun i wr => ∃ k : Nat, k ≤ xs.length ∧ i = .int .i64 k ∧ xs.take k = ys.take k ∧ Below w.heap.size w wr) (fun i _ => xs.length - (intOf i).toNat)
    case atStart => exact ⟨0, Nat.zero_le _, rfl, rfl, Below.refl _ _⟩
    case round =>
      obtain ⟨k, hk, rfl, ht, hb⟩ := hrel
      have HT := hid ht
      clear ht
      by_cases hlt : k < xs.length
      · obtain ⟨ad, rfl, hc⟩ := (hR.below hb) k hlt
        obtain ⟨bd, rfl, hc2⟩ := (hS.below hb) k (by have := HL.out; omega)
        clear hR hS
        have HB := hid hb
        clear hb
        by_cases he : nth xs k = nth ys k
        · have HE := hid (eqlen HL.out hlt HT.out he)
          rw [he] at hc
          go_wp2
          go_region
          all_goals go_wp2
          all_goals go_roundw
          case rel => exact ⟨k + 1, by omega, by go_num, HE.out, HB.out.drew⟩
          case measure => simp [intOf]; omega
        · have hne : (nth xs k == nth ys k) = false := by simpa using he
          have HE := hid (neq_nth he)
          clear he
          go_wp2
          go_region
          all_goals go_wp2
          all_goals go_ret
          all_goals exact ⟨ret_bool (by simp [HE.out]), HB.out.drew⟩
      · obtain rfl : k = xs.length := by omega
        have HB := hid hb
        clear hb
        go_wp2
        go_ret
        refine ⟨ret_bool ?_, HB.out⟩
        have := HT.out
        rw [List.take_length, HL.out, List.take_length] at this
        simp [this]
  · have hl' : ((xs.length : Int) == (ys.length : Int)) = false := by simp; omega
    have HL := hid hl
    clear hl
    go_enter Try.func8, Try.ntmps8
    go_wp2
    go_ret
    exact ⟨ret_bool (by simp; intro e; exact HL.out (by rw [e])), Below.refl _ _⟩
theorem sameInts_t (A B : Option Addr) (c d : Nat) (xs ys : List Int) (w : World) (hR : RdA w A xs) (hS : RdA w B ys) (hn : xs.length ≤ 1048577) (hm : ys.length ≤ 1048577) (h : xs = ys) :
    Calls Try.prog 8 #[.slice A xs.length c, .slice B ys.length d] w fun e w' => e = .returned (.bool true) ∧ Below w.heap.size w w' := by
  have := sameInts_c A B c d xs ys w hR hS hn hm
  rwa [decide_eq_true h] at this
theorem sameInts_f (A B : Option Addr) (c d : Nat) (xs ys : List Int) (w : World) (hR : RdA w A xs) (hS : RdA w B ys) (hn : xs.length ≤ 1048577) (hm : ys.length ≤ 1048577) (h : xs ≠ ys) :
    Calls Try.prog 8 #[.slice A xs.length c, .slice B ys.length d] w fun e w' => e = .returned (.bool false) ∧ Below w.heap.size w w' := by
  have := sameInts_c A B c d xs ys w hR hS hn hm
  rwa [decide_eq_false h] at this



theorem sMapOk_c (A : Option Addr) (c : Nat) (xs : List Int) (w : World) (hR : RdA w A xs) (hn : xs.length ≤ 1048577) :
    Calls Try.prog 22 #[.slice A xs.length c] w fun e w' => e = .returned (.bool (mapOkB xs)) ∧ w = w' := by
  go_enter Try.func22, Try.ntmps22
  go_wp2_with fail
  go_loop [3] (fun i => ∃ k : Nat, k ≤ xs.length ∧ i = .int .i64 k ∧ Hid (∀ j, j < k → 0 ≤ nth xs j ∧ nth xs j < xs.length)) (fun i => xs.length - (intOf i).toNat)
  case atStart => exact ⟨0, Nat.zero_le _, rfl, hid (fun j hj => by omega)⟩
  case round =>
    obtain ⟨k, hk, rfl, hall⟩ := hrel
    by_cases hlt : k < xs.length
    · obtain ⟨ad, rfl, hc⟩ := hR k hlt
      clear hR
      by_cases hx : 0 ≤ nth xs k ∧ nth xs k ≤ (xs.length : Int) - 1
      · go_wp2_with fail
        refine (l1In_t _ _ _ _ hx).mono ?_; rintro e w' ⟨rfl, rfl⟩
        have HX := hid hx
        clear hx
        go_wp2_with fail
        go_round
        case rel => exact ⟨k + 1, by omega, by go_num, hid (fun j hj => by
          rcases Nat.lt_succ_iff_lt_or_eq.1 hj with h | rfl
          · exact hall.out j h
          · have := HX.out; omega)⟩
        case measure => simp [intOf]; omega
      · have HN := hid (mapOkB_no hlt (fun h => hx (by omega)))
        go_wp2_with fail
        refine (l1In_f _ _ _ _ hx).mono ?_; rintro e w' ⟨rfl, rfl⟩
        go_wp2_with fail
        go_ret
        exact ⟨ret_bool HN.out.symm, rfl⟩
    · obtain rfl : k = xs.length := by omega
      have HN := hid (mapOkB_all hall.out)
      clear hR
      by_cases hl : (1 : Int) ≤ xs.length ∧ (xs.length : Int) ≤ 7
      · go_wp2_with fail
        refine (l1In_t _ _ _ _ hl).mono ?_; rintro e w' ⟨rfl, rfl⟩
        go_wp2_with fail
        go_ret
        exact ⟨ret_bool (by rw [HN.out]; simp; omega), rfl⟩
      · go_wp2_with fail
        refine (l1In_f _ _ _ _ hl).mono ?_; rintro e w' ⟨rfl, rfl⟩
        go_wp2_with fail
        go_ret
        exact ⟨ret_bool (by rw [HN.out]; simp; omega), rfl⟩

/-- a new slice that holds xs, nil just where there is none -/
def RetN (w : World) (xs : List Int) (e : Ending) (w' : World) : Prop := ∃ A c, e = .returned (.slice A xs.length c) ∧ Own w.heap.size w' (.slice A xs.length c) xs ∧ Below w.heap.size w w' ∧ (xs = [] → A = none ∧ c = 0)
theorem RetN.ret {w : World} {xs : List Int} {e : Ending} {w' : World} (h : RetN w xs e w') : RetI w xs e w' := by
  obtain ⟨A, c, h1, h2, h3, _⟩ := h
  exact ⟨A, c, h1, h2, h3⟩
theorem RetN.nil (w : World) : RetN w [] (.returned (.slice none 0 0)) w := ⟨none, 0, rfl, Own.nil _ _, Below.refl _ _, fun _ => ⟨rfl, rfl⟩⟩
theorem retN_mk {w wr : World} {n c : Nat} {A : Option Addr} {F : Nat → Nat} {L : List Int} (h : L = mk n F) (ho : Own w.heap.size wr (.slice A n c) (mk n F)) (hb : Below w.heap.size w wr) (hn : 1 ≤ n) : RetN w L (.returned (.slice A n c)) wr := by
  subst h
  refine ⟨A, c, by rw [mk_len], by rw [mk_len]; exact ho, hb, fun e => ?_⟩
  have := congrArg List.length e
  rw [mk_len] at this
  simp at this
  omega
/-- n places filled up to the k-th by F, noughts behind -/
def upTo (n : Nat) (F : Nat → Nat) (k : Nat) : List Int := mk k F ++ List.replicate (n - k) 0
theorem upTo_len {n : Nat} {F : Nat → Nat} {k : Nat} (h : k ≤ n) : (upTo n F k).length = n := by simp [upTo, mk_len]; omega
theorem upTo_zero (n : Nat) (F : Nat → Nat) : upTo n F 0 = List.replicate n 0 := by simp [upTo, mk, ints]
theorem upTo_all (n : Nat) (F : Nat → Nat) : upTo n F n = mk n F := by simp [upTo]
theorem upTo_set {n : Nat} {F : Nat → Nat} {k : Nat} (h : k < n) : (upTo n F k).set k (F k : Int) = upTo n F (k + 1) := by
  unfold upTo
  rw [List.set_append_right _ _ (by rw [mk_len]; omega), mk_len, Nat.sub_self, mk_succ, show n - k = (n - (k + 1)) + 1 by omega, List.replicate_succ, List.set_cons_zero, List.append_assoc]
  rfl

theorem iSameOf_c (n : Int) (w : World) :
    Calls Try.prog 60 #[.int .i64 n] w (RetN w (sameL n)) := by
  by_cases h : 1 ≤ n ∧ n ≤ 7
  · obtain ⟨N, rfl⟩ := Int.eq_ofNat_of_zero_le (show 0 ≤ n by omega)
    have HE := hid (show sameL N = mk N (fun k => k) by unfold sameL; rw [if_pos h, Int.toNat_natCast])
    have h1 : 1 ≤ N := by omega
    have h7 : N ≤ 7 := by omega
    clear h
    go_enter Try.func60, Try.ntmps60
    go_wp2_with (at_make; refine wpList_mk _ rfl _ _ rfl _ N rfl rfl rfl (by omega) ?_; intro w1 hown hb)
    go_loopw [15] (fun i wr => ∃ k : Nat, k ≤ N ∧ i = .int .i64 k ∧ Own w.heap.size wr (.slice (some ⟨w.heap.size, 0, none⟩) N N) (upTo N (fun k => k) k) ∧ Below w.heap.size w wr) (fun i _ => N - (intOf i).toNat)
    case atStart => exact ⟨0, Nat.zero_le _, rfl, by rw [upTo_zero]; exact hown, hb⟩
    case round =>
      clear hown hb
      obtain ⟨k, hk, rfl, hown, hb⟩ := hrel
      by_cases hlt : k < N
      · have hc2 := hown.cell (k := k) (by rw [upTo_len hk]; exact hlt)
        have hf2 := hown.frozen k
        have hs := hown.store k (k : Int)
        rw [upTo_set (F := fun k => k) hlt] at hs
        have hbs := hb.setCell (p := ⟨w.heap.size, k, none⟩) (Nat.le_refl _) (.int .i64 (k : Int))
        clear hown hb
        go_wp2
        go_roundw
        case rel => exact ⟨k + 1, by omega, by go_num, hs, hbs⟩
        case measure => simp [intOf]; omega
      · obtain rfl : k = N := by omega
        rw [upTo_all] at hown
        go_wp2
        go_ret
        exact retN_mk HE.out hown hb (by omega)
  · have HE := hid (show sameL n = [] by unfold sameL; rw [if_neg h])
    by_cases h1 : n < 1
    · clear h
      go_enter Try.func60, Try.ntmps60
      go_wp2_with fail
      go_ret
      rw [HE.out]
      exact RetN.nil w
    · have h2 : 7 < n := by omega
      have h1' : decide (n < 1) = false := by simp; omega
      clear h h1
      go_enter Try.func60, Try.ntmps60
      go_wp2_with fail
      go_ret
      rw [HE.out]
      exact RetN.nil w

set_option maxHeartbeats 800000 in
theorem iBehindOf_c (A B : Option Addr) (c d : Nat) (f g : List Int) (w : World) (hR : RdA w A f) (hS : RdA w B g) (hn : f.length ≤ 1048577) (hm : g.length ≤ 1048577) :
    Calls Try.prog 61 #[.slice A f.length c, .slice B g.length d] w (RetN w (behindL f g)) := by
  have c1 := iMapOk_c A c f w hR hn
  have c2 := iMapOk_c B d g w hS hm
  by_cases hf : mapOkB f = true
  · rw [hf] at c1
    by_cases hg : mapOkB g = true
    · rw [hg] at c2
      have gf := good_of hf
      have gg := good_of hg
      by_cases hl : f.length = g.length
      · have HE := hid (behindL_good gf gg hl)
        have HG := hid gg
        have HF := hid gf
        have h1 := gf.1.1
        have h7 := gf.1.2
        have C1 := hid c1
        have C2 := hid c2
        have e1 : g.length = f.length := hl.symm
        have HL := hid hl
        rw [e1] at C2 hm ⊢
        clear hf hg gf gg hl c1 c2 e1
        go_enter Try.func61, Try.ntmps61
        go_wp2_with fail
        refine C1.out.mono ?_; rintro e w' ⟨rfl, rfl⟩
        go_wp2_with fail
        refine C2.out.mono ?_; rintro e w' ⟨rfl, rfl⟩
        go_wp2_with (at_make; refine wpList_mk _ rfl _ _ rfl _ f.length rfl rfl rfl (by omega) ?_; intro w1 hown hb)
        go_loopw [28] (fun i wr => ∃ k : Nat, k ≤ f.length ∧ i = .int .i64 k ∧ Own w.heap.size wr (.slice (some ⟨w.heap.size, 0, none⟩) f.length f.length) (upTo f.length (fun k => ap g (ap f k)) k) ∧ Below w.heap.size w wr) (fun i _ => f.length - (intOf i).toNat)
        case atStart => exact ⟨0, Nat.zero_le _, rfl, by rw [upTo_zero]; exact hown, hb⟩
        case round =>
          clear hown hb
          obtain ⟨k, hk, rfl, hown, hb⟩ := hrel
          by_cases hlt : k < f.length
          · obtain ⟨ad, rfl, hc⟩ := (hR.below hb) k hlt
            have hlt2 := HF.out.ap_lt hlt
            rw [HF.out.nth_ap hlt] at hc
            obtain ⟨bd, rfl, hc3⟩ := (hS.below hb) (ap f k) (by have := HL.out; omega)
            rw [HG.out.nth_ap (by have := HL.out; omega)] at hc3
            have hc2 := hown.cell (k := k) (by rw [upTo_len hk]; exact hlt)
            have hf2 := hown.frozen k
            have hs := hown.store k (ap g (ap f k) : Int)
            rw [upTo_set (F := fun k => ap g (ap f k)) hlt] at hs
            have hbs := hb.setCell (p := ⟨w.heap.size, k, none⟩) (Nat.le_refl _) (.int .i64 (ap g (ap f k) : Int))
            clear hown hb hR hS
            generalize ap g (ap f k) = Y at *
            generalize ap f k = X at *
            go_wp2
            go_roundw
            case rel => exact ⟨k + 1, by omega, by go_num, hs, hbs⟩
            case measure => simp [intOf]; omega
          · obtain rfl : k = f.length := by omega
            rw [upTo_all] at hown
            clear hR hS
            go_wp2
            go_ret
            exact retN_mk HE.out hown hb (by omega)
      · have HE := hid (behindL_no (f := f) (g := g) (fun h => hl h.2.2))
        have q1 : ((f.length : Int) == (g.length : Int)) = false := by simp; omega
        clear hf hg gf gg hl hR hS
        go_enter Try.func61, Try.ntmps61
        go_wp2_with fail
        refine c1.mono ?_; rintro e w' ⟨rfl, rfl⟩
        go_wp2_with fail
        refine c2.mono ?_; rintro e w' ⟨rfl, rfl⟩
        go_wp2_with fail
        go_ret
        rw [HE.out]
        exact RetN.nil w
    · have HE := hid (behindL_no (f := f) (g := g) (fun h => hg h.2.1))
      rw [show mapOkB g = false by simpa using hg] at c2
      clear hf hg hR hS
      go_enter Try.func61, Try.ntmps61
      go_wp2_with fail
      refine c1.mono ?_; rintro e w' ⟨rfl, rfl⟩
      go_wp2_with fail
      refine c2.mono ?_; rintro e w' ⟨rfl, rfl⟩
      go_wp2_with fail
      go_ret
      rw [HE.out]
      exact RetN.nil w
  · have HE := hid (behindL_no (f := f) (g := g) (fun h => hf h.1))
    rw [show mapOkB f = false by simpa using hf] at c1
    clear hf hR hS c2
    go_enter Try.func61, Try.ntmps61
    go_wp2_with fail
    refine c1.mono ?_; rintro e w' ⟨rfl, rfl⟩
    go_wp2_with fail
    go_ret
    rw [HE.out]
    exact RetN.nil w

end Go.Proofs.Ytjipecfoiddkjaa
