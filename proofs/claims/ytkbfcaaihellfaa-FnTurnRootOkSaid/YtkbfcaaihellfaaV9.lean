/- Steps on the way to the law; each part says what it proves. -/
import Derived.Test.YtkbfcaaihellfaaV8
import Derived.Test.YtkbfcaaihellfaaV7
import Derived.WalkSpells
import Derived.WalkKit
import Derived.WalkMore
import Derived.ScopeJumps

set_option linter.unusedSimpArgs false

/- Contracts of chapter 1 (and WithOk). -/
namespace Go.Proofs.Ytkbfcaaihellfaa
open Go.RowKit
set_option linter.unusedVariables false

set_option maxHeartbeats 400000 in
theorem sameInts_c (A B : Option Addr) (c d : Nat) (xs ys : List Int) (w : World) (hR : RdA w A xs) (hS : RdA w B ys) (hn : xs.length ≤ 1048577) (hm : ys.length ≤ 1048577) :
    Calls Try.prog 22 #[.slice A xs.length c, .slice B ys.length d] w fun e w' => e = .returned (.bool (decide (xs = ys))) ∧ Below w.heap.size w w' := by
  by_cases hl : xs.length = ys.length
  · have hl' : ((xs.length : Int) == (ys.length : Int)) = true := by simp [hl]
    have HL := hid hl
    have e1 : ys.length = xs.length := hl.symm
    rw [e1] at hl' hm ⊢
    clear e1 hl
    go_enter Try.func22, Try.ntmps22
    go_wp2
    go_loopw [5] (fun i wr => ∃ k : Nat, k ≤ xs.length ∧ i = .int .i64 k ∧ xs.take k = ys.take k ∧ Below w.heap.size w wr) (fun i _ => xs.length - (intOf i).toNat)
    case atStart => exact ⟨0, Nat.zero_le _, rfl, rfl, Below.refl _ _⟩
    case round =>
      obtain ⟨k, hk, rfl, ht, hb⟩ := hrel
      have HT := hid ht
      clear ht
      by_cases hlt : k < xs.length
      · obtain ⟨ad, rfl, hc⟩ := (hR.below hb) k hlt
        obtain ⟨bd, rfl, hc2⟩ := (hS.below hb) k (by have := HL.out; omega)
        clear hR hS
        have HB := hid hb
        clear hb
        by_cases he : nth xs k = nth ys k
        · have HE := hid (eqlen HL.out hlt HT.out he)
          rw [he] at hc
          go_wp2
          go_region
          all_goals go_wp2
          all_goals go_roundw
          case rel => exact ⟨k + 1, by omega, by go_num, HE.out, HB.out.drew⟩
          case measure => simp [intOf]; omega
        · have hne : (nth xs k == nth ys k) = false := by simpa using he
          have HE := hid (neq_nth he)
          clear he
          go_wp2
          go_region
          all_goals go_wp2
          all_goals go_ret
          all_goals exact ⟨ret_bool (by simp [HE.out]), HB.out.drew⟩
      · obtain rfl : k = xs.length := by omega
        have HB := hid hb
        clear hb
        go_wp2
        go_ret
        refine ⟨ret_bool ?_, HB.out⟩
        have := HT.out
        rw [List.take_length, HL.out, List.take_length] at this
        simp [this]
  · have hl' : ((xs.length : Int) == (ys.length : Int)) = false := by simp; omega
    have HL := hid hl
    clear hl
    go_enter Try.func22, Try.ntmps22
    go_wp2
    go_ret
    exact ⟨ret_bool (by simp; intro e; exact HL.out (by rw [e])), Below.refl _ _⟩
theorem sameInts_t (A B : Option Addr) (c d : Nat) (xs ys : List Int) (w : World) (hR : RdA w A xs) (hS : RdA w B ys) (hn : xs.length ≤ 1048577) (hm : ys.length ≤ 1048577) (h : xs = ys) :
    Calls Try.prog 22 #[.slice A xs.length c, .slice B ys.length d] w fun e w' => e = .returned (.bool true) ∧ Below w.heap.size w w' := by
  have := sameInts_c A B c d xs ys w hR hS hn hm
  rwa [decide_eq_true h] at this
theorem sameInts_f (A B : Option Addr) (c d : Nat) (xs ys : List Int) (w : World) (hR : RdA w A xs) (hS : RdA w B ys) (hn : xs.length ≤ 1048577) (hm : ys.length ≤ 1048577) (h : xs ≠ ys) :
    Calls Try.prog 22 #[.slice A xs.length c, .slice B ys.length d] w fun e w' => e = .returned (.bool false) ∧ Below w.heap.size w w' := by
  have := sameInts_c A B c d xs ys w hR hS hn hm
  rwa [decide_eq_false h] at this

set_option maxHeartbeats 400000 in
theorem equal_c (A B : Option Addr) (c d : Nat) (xs ys : List Int) (w : World) (hR : RdA w A xs) (hS : RdA w B ys) (hn : xs.length ≤ 1048577) (hm : ys.length ≤ 1048577) :
    Calls Try.prog 43 #[.slice A xs.length c, .slice B ys.length d] w fun e w' => e = .returned (.bool (decide (xs = ys))) ∧ Below w.heap.size w w' := by
  by_cases hl : xs.length = ys.length
  · have hl' : ((xs.length : Int) == (ys.length : Int)) = true := by simp [hl]
    have HL := hid hl
    have e1 : ys.length = xs.length := hl.symm
    rw [e1] at hl' hm ⊢
    clear e1 hl
    go_enter Try.func43, Try.ntmps43
    go_wp2
    go_loopw [13] (fun i wr => ∃ k : Nat, k ≤ xs.length ∧ i = .int .i64 k ∧ xs.take k = ys.take k ∧ Below w.heap.size w wr) (fun i _ => xs.length - (intOf i).toNat)
    case atStart => exact ⟨0, Nat.zero_le _, rfl, rfl, Below.refl _ _⟩
    case round =>
      obtain ⟨k, hk, rfl, ht, hb⟩ := hrel
      have HT := hid ht
      clear ht
      by_cases hlt : k < xs.length
      · obtain ⟨ad, rfl, hc⟩ := (hR.below hb) k hlt
        obtain ⟨bd, rfl, hc2⟩ := (hS.below hb) k (by have := HL.out; omega)
        clear hR hS
        have HB := hid hb
        clear hb
        by_cases he : nth xs k = nth ys k
        · have HE := hid (eqlen HL.out hlt HT.out he)
          rw [he] at hc
          go_wp2
          go_region
          all_goals go_wp2
          all_goals go_roundw
          case rel => exact ⟨k + 1, by omega, by go_num, HE.out, HB.out.drew⟩
          case measure => simp [intOf]; omega
        · have hne : (nth xs k == nth ys k) = false := by simpa using he
          have HE := hid (neq_nth he)
          clear he
          go_wp2
          go_region
          all_goals go_wp2
          all_goals go_ret
          all_goals exact ⟨ret_bool (by simp [HE.out]), HB.out.drew⟩
      · obtain rfl : k = xs.length := by omega
        have HB := hid hb
        clear hb
        go_wp2
        go_ret
        refine ⟨ret_bool ?_, HB.out⟩
        have := HT.out
        rw [List.take_length, HL.out, List.take_length] at this
        simp [this]
  · have hl' : ((xs.length : Int) == (ys.length : Int)) = false := by simp; omega
    have HL := hid hl
    clear hl
    go_enter Try.func43, Try.ntmps43
    go_wp2
    go_ret
    exact ⟨ret_bool (by simp; intro e; exact HL.out (by rw [e])), Below.refl _ _⟩


theorem sMapOk_c (A : Option Addr) (c : Nat) (xs : List Int) (w : World) (hR : RdA w A xs) (hn : xs.length ≤ 1048577) :
    Calls Try.prog 36 #[.slice A xs.length c] w fun e w' => e = .returned (.bool (mapOkB xs)) ∧ w = w' := by
  go_enter Try.func36, Try.ntmps36
  go_wp2_with fail
  go_loop [3] (fun i => ∃ k : Nat, k ≤ xs.length ∧ i = .int .i64 k ∧ Hid (∀ j, j < k → 0 ≤ nth xs j ∧ nth xs j < xs.length)) (fun i => xs.length - (intOf i).toNat)
  case atStart => exact ⟨0, Nat.zero_le _, rfl, hid (fun j hj => by omega)⟩
  case round =>
    obtain ⟨k, hk, rfl, hall⟩ := hrel
    by_cases hlt : k < xs.length
    · obtain ⟨ad, rfl, hc⟩ := hR k hlt
      clear hR
      by_cases hx : 0 ≤ nth xs k ∧ nth xs k ≤ (xs.length : Int) - 1
      · go_wp2_with fail
        refine (l1In_t _ _ _ _ hx).mono ?_; rintro e w' ⟨rfl, rfl⟩
        have HX := hid hx
        clear hx
        go_wp2_with fail
        go_round
        case rel => exact ⟨k + 1, by omega, by go_num, hid (fun j hj => by
          rcases Nat.lt_succ_iff_lt_or_eq.1 hj with h | rfl
          · exact hall.out j h
          · have := HX.out; omega)⟩
        case measure => simp [intOf]; omega
      · have HN := hid (mapOkB_no hlt (fun h => hx (by omega)))
        go_wp2_with fail
        refine (l1In_f _ _ _ _ hx).mono ?_; rintro e w' ⟨rfl, rfl⟩
        go_wp2_with fail
        go_ret
        exact ⟨ret_bool HN.out.symm, rfl⟩
    · obtain rfl : k = xs.length := by omega
      have HN := hid (mapOkB_all hall.out)
      clear hR
      by_cases hl : (1 : Int) ≤ xs.length ∧ (xs.length : Int) ≤ 7
      · go_wp2_with fail
        refine (l1In_t _ _ _ _ hl).mono ?_; rintro e w' ⟨rfl, rfl⟩
        go_wp2_with fail
        go_ret
        exact ⟨ret_bool (by rw [HN.out]; simp; omega), rfl⟩
      · go_wp2_with fail
        refine (l1In_f _ _ _ _ hl).mono ?_; rintro e w' ⟨rfl, rfl⟩
        go_wp2_with fail
        go_ret
        exact ⟨ret_bool (by rw [HN.out]; simp; omega), rfl⟩

/-- a new slice that holds xs, nil just where there is none -/
def RetN (w : World) (xs : List Int) (e : Ending) (w' : World) : Prop := ∃ A c, e = .returned (.slice A xs.length c) ∧ Own w.heap.size w' (.slice A xs.length c) xs ∧ Below w.heap.size w w' ∧ (xs = [] → A = none ∧ c = 0)
theorem RetN.ret {w : World} {xs : List Int} {e : Ending} {w' : World} (h : RetN w xs e w') : RetI w xs e w' := by
  obtain ⟨A, c, h1, h2, h3, _⟩ := h
  exact ⟨A, c, h1, h2, h3⟩
theorem RetN.nil (w : World) : RetN w [] (.returned (.slice none 0 0)) w := ⟨none, 0, rfl, Own.nil _ _, Below.refl _ _, fun _ => ⟨rfl, rfl⟩⟩
theorem retN_mk {w wr : World} {n c : Nat} {A : Option Addr} {F : Nat → Nat} {L : List Int} (h : L = mk n F) (ho : Own w.heap.size wr (.slice A n c) (mk n F)) (hb : Below w.heap.size w wr) (hn : 1 ≤ n) : RetN w L (.returned (.slice A n c)) wr := by
  subst h
  refine ⟨A, c, by rw [mk_len], by rw [mk_len]; exact ho, hb, fun e => ?_⟩
  have := congrArg List.length e
  rw [mk_len] at this
  simp at this
  omega
/-- n places filled up to the k-th by F, noughts behind -/
def upTo (n : Nat) (F : Nat → Nat) (k : Nat) : List Int := mk k F ++ List.replicate (n - k) 0
theorem upTo_len {n : Nat} {F : Nat → Nat} {k : Nat} (h : k ≤ n) : (upTo n F k).length = n := by simp [upTo, mk_len]; omega
theorem upTo_zero (n : Nat) (F : Nat → Nat) : upTo n F 0 = List.replicate n 0 := by simp [upTo, mk, ints]
theorem upTo_all (n : Nat) (F : Nat → Nat) : upTo n F n = mk n F := by simp [upTo]
theorem upTo_set {n : Nat} {F : Nat → Nat} {k : Nat} (h : k < n) : (upTo n F k).set k (F k : Int) = upTo n F (k + 1) := by
  unfold upTo
  rw [List.set_append_right _ _ (by rw [mk_len]; omega), mk_len, Nat.sub_self, mk_succ, show n - k = (n - (k + 1)) + 1 by omega, List.replicate_succ, List.set_cons_zero, List.append_assoc]
  rfl

theorem iSameOf_c (n : Int) (w : World) :
    Calls Try.prog 23 #[.int .i64 n] w (RetN w (sameL n)) := by
  by_cases h : 1 ≤ n ∧ n ≤ 7
  · obtain ⟨N, rfl⟩ := Int.eq_ofNat_of_zero_le (show 0 ≤ n by omega)
    have HE := hid (show sameL N = mk N (fun k => k) by unfold sameL; rw [if_pos h, Int.toNat_natCast])
    have h1 : 1 ≤ N := by omega
    have h7 : N ≤ 7 := by omega
    clear h
    go_enter Try.func23, Try.ntmps23
    go_wp2_with (at_make; refine wpList_mk _ rfl _ _ rfl _ N rfl rfl rfl (by omega) ?_; intro w1 hown hb)
    go_loopw [15] (fun i wr => ∃ k : Nat, k ≤ N ∧ i = .int .i64 k ∧ Own w.heap.size wr (.slice (some ⟨w.heap.size, 0, none⟩) N N) (upTo N (fun k => k) k) ∧ Below w.heap.size w wr) (fun i _ => N - (intOf i).toNat)
    case atStart => exact ⟨0, Nat.zero_le _, rfl, by rw [upTo_zero]; exact hown, hb⟩
    case round =>
      clear hown hb
      obtain ⟨k, hk, rfl, hown, hb⟩ := hrel
      by_cases hlt : k < N
      · have hc2 := hown.cell (k := k) (by rw [upTo_len hk]; exact hlt)
        have hf2 := hown.frozen k
        have hs := hown.store k (k : Int)
        rw [upTo_set (F := fun k => k) hlt] at hs
        have hbs := hb.setCell (p := ⟨w.heap.size, k, none⟩) (Nat.le_refl _) (.int .i64 (k : Int))
        clear hown hb
        go_wp2
        go_roundw
        case rel => exact ⟨k + 1, by omega, by go_num, hs, hbs⟩
        case measure => simp [intOf]; omega
      · obtain rfl : k = N := by omega
        rw [upTo_all] at hown
        go_wp2
        go_ret
        exact retN_mk HE.out hown hb (by omega)
  · have HE := hid (show sameL n = [] by unfold sameL; rw [if_neg h])
    by_cases h1 : n < 1
    · clear h
      go_enter Try.func23, Try.ntmps23
      go_wp2_with fail
      go_ret
      rw [HE.out]
      exact RetN.nil w
    · have h2 : 7 < n := by omega
      have h1' : decide (n < 1) = false := by simp; omega
      clear h h1
      go_enter Try.func23, Try.ntmps23
      go_wp2_with fail
      go_ret
      rw [HE.out]
      exact RetN.nil w

set_option maxHeartbeats 800000 in
theorem iBehindOf_c (A B : Option Addr) (c d : Nat) (f g : List Int) (w : World) (hR : RdA w A f) (hS : RdA w B g) (hn : f.length ≤ 1048577) (hm : g.length ≤ 1048577) :
    Calls Try.prog 25 #[.slice A f.length c, .slice B g.length d] w (RetN w (behindL f g)) := by
  have c1 := iMapOk_c A c f w hR hn
  have c2 := iMapOk_c B d g w hS hm
  by_cases hf : mapOkB f = true
  · rw [hf] at c1
    by_cases hg : mapOkB g = true
    · rw [hg] at c2
      have gf := good_of hf
      have gg := good_of hg
      by_cases hl : f.length = g.length
      · have HE := hid (behindL_good gf gg hl)
        have HG := hid gg
        have HF := hid gf
        have h1 := gf.1.1
        have h7 := gf.1.2
        have C1 := hid c1
        have C2 := hid c2
        have e1 : g.length = f.length := hl.symm
        have HL := hid hl
        rw [e1] at C2 hm ⊢
        clear hf hg gf gg hl c1 c2 e1
        go_enter Try.func25, Try.ntmps25
        go_wp2_with fail
        refine C1.out.mono ?_; rintro e w' ⟨rfl, rfl⟩
        go_wp2_with fail
        refine C2.out.mono ?_; rintro e w' ⟨rfl, rfl⟩
        go_wp2_with (at_make; refine wpList_mk _ rfl _ _ rfl _ f.length rfl rfl rfl (by omega) ?_; intro w1 hown hb)
        go_loopw [28] (fun i wr => ∃ k : Nat, k ≤ f.length ∧ i = .int .i64 k ∧ Own w.heap.size wr (.slice (some ⟨w.heap.size, 0, none⟩) f.length f.length) (upTo f.length (fun k => ap g (ap f k)) k) ∧ Below w.heap.size w wr) (fun i _ => f.length - (intOf i).toNat)
        case atStart => exact ⟨0, Nat.zero_le _, rfl, by rw [upTo_zero]; exact hown, hb⟩
        case round =>
          clear hown hb
          obtain ⟨k, hk, rfl, hown, hb⟩ := hrel
          by_cases hlt : k < f.length
          · obtain ⟨ad, rfl, hc⟩ := (hR.below hb) k hlt
            have hlt2 := HF.out.ap_lt hlt
            rw [HF.out.nth_ap hlt] at hc
            obtain ⟨bd, rfl, hc3⟩ := (hS.below hb) (ap f k) (by have := HL.out; omega)
            rw [HG.out.nth_ap (by have := HL.out; omega)] at hc3
            have hc2 := hown.cell (k := k) (by rw [upTo_len hk]; exact hlt)
            have hf2 := hown.frozen k
            have hs := hown.store k (ap g (ap f k) : Int)
            rw [upTo_set (F := fun k => ap g (ap f k)) hlt] at hs
            have hbs := hb.setCell (p := ⟨w.heap.size, k, none⟩) (Nat.le_refl _) (.int .i64 (ap g (ap f k) : Int))
            clear hown hb hR hS
            generalize ap g (ap f k) = Y at *
            generalize ap f k = X at *
            go_wp2
            go_roundw
            case rel => exact ⟨k + 1, by omega, by go_num, hs, hbs⟩
            case measure => simp [intOf]; omega
          · obtain rfl : k = f.length := by omega
            rw [upTo_all] at hown
            clear hR hS
            go_wp2
            go_ret
            exact retN_mk HE.out hown hb (by omega)
      · have HE := hid (behindL_no (f := f) (g := g) (fun h => hl h.2.2))
        have q1 : ((f.length : Int) == (g.length : Int)) = false := by simp; omega
        clear hf hg gf gg hl hR hS
        go_enter Try.func25, Try.ntmps25
        go_wp2_with fail
        refine c1.mono ?_; rintro e w' ⟨rfl, rfl⟩
        go_wp2_with fail
        refine c2.mono ?_; rintro e w' ⟨rfl, rfl⟩
        go_wp2_with fail
        go_ret
        rw [HE.out]
        exact RetN.nil w
    · have HE := hid (behindL_no (f := f) (g := g) (fun h => hg h.2.1))
      rw [show mapOkB g = false by simpa using hg] at c2
      clear hf hg hR hS
      go_enter Try.func25, Try.ntmps25
      go_wp2_with fail
      refine c1.mono ?_; rintro e w' ⟨rfl, rfl⟩
      go_wp2_with fail
      refine c2.mono ?_; rintro e w' ⟨rfl, rfl⟩
      go_wp2_with fail
      go_ret
      rw [HE.out]
      exact RetN.nil w
  · have HE := hid (behindL_no (f := f) (g := g) (fun h => hf h.1))
    rw [show mapOkB f = false by simpa using hf] at c1
    clear hf hR hS c2
    go_enter Try.func25, Try.ntmps25
    go_wp2_with fail
    refine c1.mono ?_; rintro e w' ⟨rfl, rfl⟩
    go_wp2_with fail
    go_ret
    rw [HE.out]
    exact RetN.nil w

end Go.Proofs.Ytkbfcaaihellfaa

/- Contracts: BehindOf of the reference; WithOk. -/
namespace Go.Proofs.Ytkbfcaaihellfaa
open Go.RowKit
set_option linter.unusedVariables false

theorem retI_mk {w wr : World} {n c : Nat} {A : Option Addr} {F : Nat → Nat} {L : List Int} (h : L = mk n F) (ho : Own w.heap.size wr (.slice A n c) (mk n F)) (hb : Below w.heap.size w wr) : RetI w L (.returned (.slice A n c)) wr := by
  subst h
  exact ⟨A, c, by rw [mk_len], by rw [mk_len]; exact ho, hb⟩
theorem retI_own {w wr : World} {v : Value} {L : List Int} (ho : Own w.heap.size wr v L) (hb : Below w.heap.size w wr) : RetI w L (.returned v) wr := by
  obtain ⟨A, c, rfl, _⟩ := ho.form
  exact ⟨A, c, rfl, ho, hb⟩
theorem own_empty (w : World) : Own w.heap.size (w.alloc (.cells #[] 3)) (.slice (some ⟨w.heap.size, 0, none⟩) 0 0) [] := Own.new_ w [] #[] rfl (by decide)

set_option maxHeartbeats 800000 in
theorem sBehindOf_c (A B : Option Addr) (c d : Nat) (f g : List Int) (w : World) (hR : RdA w A f) (hS : RdA w B g) (hn : f.length ≤ 1048577) (hm : g.length ≤ 1048577) :
    Calls Try.prog 39 #[.slice A f.length c, .slice B g.length d] w (RetI w (behindL f g)) := by
  have o0 := own_empty w
  have b0 : Below w.heap.size w (w.alloc (.cells #[] 3)) := (Below.refl _ _).alloc (Nat.le_refl _) _
  have c1 := fun W (hb : Below w.heap.size w W) => sMapOk_c A c f W (hR.below hb) hn
  have c2 := fun W (hb : Below w.heap.size w W) => sMapOk_c B d g W (hS.below hb) hm
  by_cases hall : mapOkB f = true ∧ mapOkB g = true ∧ f.length = g.length
  · obtain ⟨hf, hg, hl⟩ := hall
    rw [hf] at c1
    rw [hg] at c2
    have gf := good_of hf
    have gg := good_of hg
    have HE := hid (behindL_good gf gg hl)
    have HG := hid gg
    have HF := hid gf
    have h1 := gf.1.1
    have h7 := gf.1.2
    have C1 := hid c1
    have C2 := hid c2
    have e1 : g.length = f.length := hl.symm
    have HL := hid hl
    rw [e1] at C2 hm ⊢
    clear hf hg gf gg hl c1 c2 e1
    go_enter Try.func39, Try.ntmps39
    go_wp2_with fail
    go_loopw [5, 6] (fun v i wr => ∃ k : Nat, k ≤ f.length ∧ i = .int .i64 k ∧ Own w.heap.size wr v (mk k (fun k => ap g (ap f k))) ∧ Below w.heap.size w wr) (fun _ i _ => f.length - (intOf i).toNat)
    case atStart => exact ⟨0, Nat.zero_le _, rfl, o0, b0⟩
    case round =>
      clear o0 b0
      obtain ⟨k, hk, rfl, ho, hb⟩ := hrel
      by_cases hlt : k < f.length
      · obtain ⟨ad, rfl, hc⟩ := (hR.below hb) k hlt
        have hlt2 := HF.out.ap_lt hlt
        rw [HF.out.nth_ap hlt] at hc
        obtain ⟨bd, rfl, hc3⟩ := (hS.below hb) (ap f k) (by have := HL.out; omega)
        rw [HG.out.nth_ap (by have := HL.out; omega)] at hc3
        have HM := hid (mk_succ k (fun k => ap g (ap f k)))
        have hll := mk_len k (fun k => ap g (ap f k))
        have HLL := hid hll
        have hsz := hb.size
        have K1 := hid (C1.out wr hb)
        have K2 := hid (C2.out wr hb)
        clear hll hR hS C1 C2
        generalize ap g (ap f k) = Y at *
        generalize ap f k = X at *
        generalize mk k (fun k => ap g (ap f k)) = M at *
        go_wp2_with fail
        refine K1.out.mono ?_; rintro e w' ⟨rfl, rfl⟩
        go_wp2_with fail
        refine K2.out.mono ?_; rintro e w' ⟨rfl, rfl⟩
        go_wp2_with (at_builtin; refine wpList_app1 _ rfl _ _ rfl w.heap.size _ M rfl (ho.alloc _) wr.heap.size (Y : Int) rfl (cell_one1 _ _ _) (by have := HLL.out; omega) (by simp; omega) ?_; intro A3 c3 w3 o3 b3)
        have b3' : Below w.heap.size w w3 := (hb.alloc hsz _).trans b3
        clear b3 hb ho
        go_wp2_with fail
        go_roundw
        case rel => exact ⟨k + 1, by omega, by go_num, by rw [HM.out]; exact o3, b3'⟩
        case measure => simp [intOf]; omega
      · obtain rfl : k = f.length := by omega
        obtain ⟨A4, c4, rfl, _⟩ := ho.form
        rw [mk_len] at *
        clear hR hS C1 C2
        go_wp2_with fail
        go_ret
        exact retI_mk HE.out ho hb
  · have HE := hid (behindL_no hall)
    have K1 := hid (c1 _ b0)
    have K2 := hid (c2 _ b0)
    clear c1 c2
    by_cases h0 : 0 < f.length
    · by_cases hl : f.length = g.length
      · have e1 : g.length = f.length := hl.symm
        rw [e1] at K2 hm ⊢
        clear hR hS
        by_cases hf : mapOkB f = true
        · have hg : mapOkB g = false := by
            rcases hg : mapOkB g with _ | _
            · rfl
            · exact absurd ⟨hf, hg, hl⟩ hall
          rw [hf] at K1
          rw [hg] at K2
          clear hf hg hl hall e1
          go_enter Try.func39, Try.ntmps39
          go_wp2_with fail
          refine wp_loop_rounds 1 ?_
          rw [rounds_succ]
          go_wp2_with fail
          refine K1.out.mono ?_; rintro e w' ⟨rfl, rfl⟩
          go_wp2_with fail
          refine K2.out.mono ?_; rintro e w' ⟨rfl, rfl⟩
          go_wp2_with fail
          go_ret
          rw [HE.out]
          exact retI_own o0 b0
        · rw [show mapOkB f = false by simpa using hf] at K1
          clear hf hl hall e1
          go_enter Try.func39, Try.ntmps39
          go_wp2_with fail
          refine wp_loop_rounds 1 ?_
          rw [rounds_succ]
          go_wp2_with fail
          refine K1.out.mono ?_; rintro e w' ⟨rfl, rfl⟩
          go_wp2_with fail
          go_ret
          rw [HE.out]
          exact retI_own o0 b0
      · have q1 : ((f.length : Int) == (g.length : Int)) = false := by simp; omega
        clear hl hall hR hS
        go_enter Try.func39, Try.ntmps39
        go_wp2_with fail
        refine wp_loop_rounds 1 ?_
        rw [rounds_succ]
        go_wp2_with fail
        go_ret
        rw [HE.out]
        exact retI_own o0 b0
    · have q1 : decide ((0 : Int) < (f.length : Int)) = false := decide_eq_false (by omega)
      have q0 : decide (0 < f.length) = false := decide_eq_false (by omega)
      clear hall hR hS h0
      go_enter Try.func39, Try.ntmps39
      go_wp2_with fail
      refine wp_loop_rounds 1 ?_
      rw [rounds_succ]
      go_wp2_with fail
      go_ret
      rw [HE.out]
      exact retI_own o0 b0

/-! ### WithOk -/
def withB (f g : List Int) : Bool := decide (behindL f g ≠ [] ∧ behindL f g = behindL g f)
theorem behindL_ne {f g : List Int} (h : behindL f g ≠ []) : mapOkB f = true ∧ mapOkB g = true ∧ f.length = g.length := by
  rcases Classical.em (mapOkB f = true ∧ mapOkB g = true ∧ f.length = g.length) with h1 | h1
  · exact h1
  · exact absurd (behindL_no h1) h
theorem behindL_len2 {f g : List Int} (h : behindL f g ≠ []) : (behindL f g).length = f.length ∧ (behindL g f).length = f.length ∧ behindL g f ≠ [] := by
  obtain ⟨h1, h2, h3⟩ := behindL_ne h
  have a := (good_behind (good_of h1) (good_of h2) h3).2
  have b := good_behind (good_of h2) (good_of h1) h3.symm
  have := (good_of h1).1
  refine ⟨a, by rw [b.2, h3], fun e => ?_⟩
  have := b.2
  rw [e] at this
  simp at this
  omega

set_option maxHeartbeats 400000 in
theorem l6Same_c (A B : Option Addr) (c d : Nat) (xs ys : List Int) (w : World) (hR : RdA w A xs) (hS : RdA w B ys) (hl : xs.length = ys.length) (hn : xs.length ≤ 1048577) :
    Calls Try.prog 38 #[.slice A xs.length c, .slice B ys.length d] w fun e w' => e = .returned (.bool (decide (xs = ys))) ∧ Below w.heap.size w w' := by
  have HL := hid hl
  have e1 : ys.length = xs.length := hl.symm
  rw [e1]
  clear e1 hl
  go_enter Try.func38, Try.ntmps38
  go_wp2_with fail
  go_loopw [5] (fun i wr => ∃ k : Nat, k ≤ xs.length ∧ i = .int .i64 k ∧ Hid (xs.take k = ys.take k) ∧ Below w.heap.size w wr) (fun i _ => xs.length - (intOf i).toNat)
  case atStart => exact ⟨0, Nat.zero_le _, rfl, rfl, Below.refl _ _⟩
  case round =>
    obtain ⟨k, hk, rfl, HT, hb⟩ := hrel
    by_cases hlt : k < xs.length
    · obtain ⟨ad, rfl, hc⟩ := (hR.below hb) k hlt
      obtain ⟨bd, rfl, hc2⟩ := (hS.below hb) k (by have := HL.out; omega)
      clear hR hS
      by_cases he : nth xs k = nth ys k
      · have HE := hid (eqlen HL.out hlt HT.out he)
        rw [he] at hc
        go_wp2_with fail
        go_region
        all_goals go_wp2_with fail
        all_goals go_roundw
        case rel => exact ⟨k + 1, by omega, by go_num, HE, hb.drew⟩
        case measure => simp [intOf]; omega
      · have hne : (nth xs k == nth ys k) = false := by simpa using he
        have HE := hid (neq_nth he)
        clear he
        go_wp2_with fail
        go_region
        all_goals go_wp2_with fail
        all_goals go_ret
        all_goals exact ⟨ret_bool (by simp [HE.out]), hb.drew⟩
    · obtain rfl : k = xs.length := by omega
      go_wp2_with fail
      go_ret
      refine ⟨ret_bool ?_, hb⟩
      have := HT.out
      rw [List.take_length, HL.out, List.take_length] at this
      simp [this]

theorem iWithOk_c (A B : Option Addr) (c d : Nat) (f g : List Int) (w : World) (hR : RdA w A f) (hS : RdA w B g) (hn : f.length ≤ 1048577) (hm : g.length ≤ 1048577) :
    Calls Try.prog 24 #[.slice A f.length c, .slice B g.length d] w fun e w' => e = .returned (.bool (withB f g)) ∧ Below w.heap.size w w' := by
  have hneq := fun W => run_neq_slice_nil_any (P := Try.prog) W 22 3
  by_cases h0 : behindL f g = []
  · have HE := hid (show withB f g = false by simp [withB, h0])
    have c1 := iBehindOf_c A B c d f g w hR hS hn hm
    rw [h0] at c1
    have hq : ∀ W, (binOp .neq 22 (.slice none 0 0) (.slice none 0 0)).run Try.prog W = .ok (.bool false) W := fun W => hneq W none 0 0 0 0 Try.underlying22
    clear hneq hR hS
    go_enter Try.func24, Try.ntmps24
    go_wp2_with fail
    refine c1.mono ?_
    rintro e w1 ⟨A1, c1, rfl, o1, b1, hnil⟩
    obtain ⟨rfl, rfl⟩ := hnil rfl
    go_wp2_with fail
    go_ret
    exact ⟨ret_bool HE.out.symm, b1⟩
  · obtain ⟨l1, l2, h2⟩ := behindL_len2 h0
    have HE := hid (show withB f g = decide (behindL f g = behindL g f) by simp [withB, h0])
    have c1 := iBehindOf_c A B c d f g w hR hS hn hm
    have c2 := fun W (hb : Below w.heap.size w W) => iBehindOf_c B A d c g f W (hS.below hb) (hR.below hb) hm hn
    have hp : 0 < (behindL f g).length := by rcases hl : (behindL f g).length with _ | k; exact absurd (List.eq_nil_of_length_eq_zero hl) h0; omega
    have C2 := hid c2
    have hL1 : (behindL f g).length ≤ 1048577 := by omega
    have hL2 : (behindL g f).length ≤ 1048577 := by omega
    clear l1 l2 h2 h0 c2
    generalize behindL f g = L1 at *
    generalize behindL g f = L2 at *
    have hq : ∀ W g c, (binOp .neq 22 (.slice (some ⟨g, 0, none⟩) L1.length c) (.slice none 0 0)).run Try.prog W = .ok (.bool true) W := fun W g c => hneq W (some ⟨g, 0, none⟩) L1.length c 0 0 Try.underlying22
    clear hneq
    go_enter Try.func24, Try.ntmps24
    go_wp2_with fail
    refine c1.mono ?_
    rintro e w1 ⟨A1, c1, rfl, o1, b1, _⟩
    obtain ⟨g1, c1', e1, _, _⟩ := o1.pos hp
    injection e1 with e1 _ e2
    subst e1 e2
    clear hp
    go_wp2_with fail
    refine (C2.out w1 b1).mono ?_
    rintro e w2 ⟨A2, c2, rfl, o2, b2, _⟩
    have B2 := b1.trans (b2.mono b1.size)
    have o1' := o1.below b2
    clear b1 b2 o1 hq
    go_wp2_with fail
    refine (equal_c _ A2 _ c2 L1 L2 w2 o1'.rd o2.rd hL1 hL2).mono ?_
    rintro e w3 ⟨rfl, b3⟩
    have B3 := B2.trans (b3.mono B2.size)
    go_wp2_with fail
    go_ret
    exact ⟨ret_bool HE.out.symm, B3⟩

theorem sWithOk_c (A B : Option Addr) (c d : Nat) (f g : List Int) (w : World) (hR : RdA w A f) (hS : RdA w B g) (hn : f.length ≤ 1048577) (hm : g.length ≤ 1048577) :
    Calls Try.prog 45 #[.slice A f.length c, .slice B g.length d] w fun e w' => e = .returned (.bool (withB f g)) ∧ Below w.heap.size w w' := by
  by_cases h0 : behindL f g = []
  · have HE := hid (show withB f g = false by simp [withB, h0])
    have c1 := sBehindOf_c A B c d f g w hR hS hn hm
    rw [h0] at c1
    clear hR hS
    go_enter Try.func45, Try.ntmps45
    go_wp2_with fail
    refine c1.mono ?_
    rintro e w1 ⟨A1, c1, rfl, o1, b1⟩
    go_wp2_with fail
    go_ret
    exact ⟨ret_bool HE.out.symm, b1⟩
  · obtain ⟨l1, l2, h2⟩ := behindL_len2 h0
    have HE := hid (show withB f g = decide (behindL f g = behindL g f) by simp [withB, h0])
    have c1 := sBehindOf_c A B c d f g w hR hS hn hm
    have c2 := fun W (hb : Below w.heap.size w W) => sBehindOf_c B A d c g f W (hS.below hb) (hR.below hb) hm hn
    have hp : 0 < (behindL f g).length := by rcases hl : (behindL f g).length with _ | k; exact absurd (List.eq_nil_of_length_eq_zero hl) h0; omega
    have C2 := hid c2
    have HL := hid (show (behindL f g).length = (behindL g f).length by omega)
    have hL1 : (behindL f g).length ≤ 1048577 := by omega
    clear l1 l2 h2 h0 c2
    generalize behindL f g = L1 at *
    generalize behindL g f = L2 at *
    go_enter Try.func45, Try.ntmps45
    go_wp2_with fail
    refine c1.mono ?_
    rintro e w1 ⟨A1, c1, rfl, o1, b1⟩
    have hp' : 0 < (L1.length : Int) := by omega
    go_wp2_with fail
    refine (C2.out w1 b1).mono ?_
    rintro e w2 ⟨A2, c2, rfl, o2, b2⟩
    have B2 := b1.trans (b2.mono b1.size)
    have o1' := o1.below b2
    clear b1 b2 o1
    go_wp2_with fail
    refine (l6Same_c _ A2 _ c2 L1 L2 w2 o1'.rd o2.rd HL.out hL1).mono ?_
    rintro e w3 ⟨rfl, b3⟩
    have B3 := B2.trans (b3.mono B2.size)
    go_wp2_with fail
    go_ret
    exact ⟨ret_bool HE.out.symm, B3⟩

end Go.Proofs.Ytkbfcaaihellfaa

/- Sets of few things as bits. -/
namespace Go.Proofs.Ytkbfcaaihellfaa
open Go.RowKit
set_option linter.unusedVariables false

theorem ofInt64 (a : Nat) (ha : a < 9223372036854775808) : (BitVec.ofInt 64 (a : Int)).toNat = a := by
  rw [BitVec.ofInt_natCast, BitVec.toNat_ofNat]; exact Nat.mod_eq_of_lt (by omega)
theorem i64_and (a b : Nat) (ha : a < 9223372036854775808) (hb : b < 9223372036854775808) : bits .and .i64 (a : Int) (b : Int) = ((a &&& b : Nat) : Int) := by
  have hx : a &&& b < 2 ^ 63 := Nat.and_lt_two_pow _ (by omega)
  show IntKind.i64.wrap ((BitVec.ofInt 64 (a : Int) &&& BitVec.ofInt 64 (b : Int)).toNat : Int) = _
  rw [BitVec.toNat_and, ofInt64 a ha, ofInt64 b hb, IntKind.wrap_i64]
  omega
theorem i64_or (a b : Nat) (ha : a < 9223372036854775808) (hb : b < 9223372036854775808) : bits .or .i64 (a : Int) (b : Int) = ((a ||| b : Nat) : Int) := by
  have hx : a ||| b < 2 ^ 63 := Nat.or_lt_two_pow (by omega) (by omega)
  show IntKind.i64.wrap ((BitVec.ofInt 64 (a : Int) ||| BitVec.ofInt 64 (b : Int)).toNat : Int) = _
  rw [BitVec.toNat_or, ofInt64 a ha, ofInt64 b hb, IntKind.wrap_i64]
  omega

/-- a set of things, as bits -/
def mask (l : List Nat) : Nat := l.foldl (fun m x => m ||| 2 ^ x) 0
theorem mask_snoc (l : List Nat) (x : Nat) : mask (l ++ [x]) = mask l ||| 2 ^ x := by simp [mask, List.foldl_append]
theorem foldl_bit (l : List Nat) (m i : Nat) : (l.foldl (fun m x => m ||| 2 ^ x) m).testBit i = (m.testBit i || decide (i ∈ l)) := by
  induction l generalizing m with
  | nil => simp
  | cons x l ih =>
    rw [List.foldl_cons, ih, Nat.testBit_or, Nat.testBit_two_pow]
    by_cases h : x = i
    · subst h; simp
    · have h' : ¬ i = x := fun e => h e.symm
      simp [h, h']
theorem mask_bit (l : List Nat) (i : Nat) : (mask l).testBit i = decide (i ∈ l) := by rw [mask, foldl_bit]; simp
theorem foldl_lt (l : List Nat) (m : Nat) (hm : m < 256) (h : ∀ x ∈ l, x < 8) : l.foldl (fun m x => m ||| 2 ^ x) m < 256 := by
  induction l generalizing m with
  | nil => exact hm
  | cons x l ih =>
    rw [List.foldl_cons]
    refine ih _ ?_ (fun y hy => h y (List.mem_cons_of_mem _ hy))
    exact Nat.or_lt_two_pow (n := 8) (by omega) (Nat.pow_lt_pow_right (by omega) (h x (by simp)))
theorem mask_lt {l : List Nat} (h : ∀ x ∈ l, x < 8) : mask l < 256 := foldl_lt l 0 (by omega) h
theorem wrap_pow {x : Nat} (h : x < 8) : wrap64 ((2 : Int) ^ x) = ((2 ^ x : Nat) : Int) := by
  have : x = 0 ∨ x = 1 ∨ x = 2 ∨ x = 3 ∨ x = 4 ∨ x = 5 ∨ x = 6 ∨ x = 7 := by omega
  rcases this with rfl | rfl | rfl | rfl | rfl | rfl | rfl | rfl <;> decide +kernel
theorem pow_lt {x : Nat} (h : x < 8) : 2 ^ x < 256 := Nat.pow_lt_pow_right (n := 8) (by omega) h
/-- 'seen | 1<<x' -/
theorem mask_or {l : List Nat} {x : Nat} (h : ∀ y ∈ l, y < 8) (hx : x < 8) : bits BinOp.or IntKind.i64 (mask l : Int) (wrap64 ((2 : Int) ^ x)) = (mask (l ++ [x]) : Int) := by
  have h1 := mask_lt h
  have h2 := pow_lt hx
  rw [wrap_pow hx, i64_or _ _ (by omega) (by omega), mask_snoc]
/-- 'seen & 1<<x' -/
theorem mask_and {l : List Nat} {x : Nat} (h : ∀ y ∈ l, y < 8) (hx : x < 8) : (bits BinOp.and IntKind.i64 (mask l : Int) (wrap64 ((2 : Int) ^ x)) == 0) = !decide (x ∈ l) := by
  have h1 := mask_lt h
  have h2 := pow_lt hx
  have h3 : 0 < 2 ^ x := Nat.two_pow_pos x
  rw [wrap_pow hx, i64_and _ _ (by omega) (by omega)]
  by_cases hm : x ∈ l
  · have hb : (mask l &&& 2 ^ x).testBit x = true := by rw [Nat.testBit_and, mask_bit, Nat.testBit_two_pow]; simp [hm]
    have hne : mask l &&& 2 ^ x ≠ 0 := fun e => by rw [e] at hb; simp at hb
    simp only [hm, decide_true, Bool.not_true, beq_eq_false_iff_ne]
    omega
  · have he : mask l &&& 2 ^ x = 0 := by
      apply Nat.eq_of_testBit_eq
      intro i
      rw [Nat.testBit_and, mask_bit, Nat.testBit_two_pow]
      by_cases hi : x = i
      · subst hi; simp [hm]
      · simp [hi]
    simp [he, hm]

theorem mem_walk_lt {xs : List Int} (h : Good xs) {t : Nat} (ht : t < xs.length) (m : Nat) : ∀ x ∈ walk xs t m, x < 8 := by
  intro x hx
  obtain ⟨j, _, rfl⟩ := mem_walk.1 hx
  have := h.it_lt ht j
  have := h.1.2
  omega
theorem rho_first {xs : List Int} (h : Good xs) {t : Nat} (ht : t < xs.length) {j : Nat} (hj : j ≤ rho xs t) : it xs j t ∈ walk xs t j ↔ j = rho xs t := by
  constructor
  · intro hm
    obtain ⟨i, hi, e⟩ := mem_walk.1 hm
    rcases Nat.lt_or_ge j (rho xs t) with hlt | hge
    · exact absurd (it_inj h ht (by omega) hlt e) (by omega)
    · omega
  · rintro rfl
    exact rho_back h ht
end Go.Proofs.Ytkbfcaaihellfaa

/- Contracts of chapter 2: ways, tails, loops. -/
namespace Go.Proofs.Ytkbfcaaihellfaa
open Go.RowKit
set_option linter.unusedVariables false

def thB (f : List Int) (t : Int) : Bool := mapOkB f && decide (0 ≤ t ∧ t < f.length)
theorem thB_iff {f : List Int} {t : Int} : thB f t = true ↔ Good f ∧ 0 ≤ t ∧ t < f.length := by
  unfold thB
  rw [Bool.and_eq_true, decide_eq_true_eq]
  exact ⟨fun h => ⟨good_of h.1, h.2⟩, fun h => ⟨ok_of h.1, h.2⟩⟩

theorem thingOk_c (A : Option Addr) (c : Nat) (f : List Int) (t : Int) (w : World) (hR : RdA w A f) (hn : f.length ≤ 1048577) :
    Calls Try.prog 64 #[.slice A f.length c, .int .i64 t] w fun e w' => e = .returned (.bool (thB f t)) ∧ w = w' := by
  have c1 := iMapOk_c A c f w hR hn
  clear hR
  by_cases hf : mapOkB f = true
  · rw [hf] at c1
    by_cases ht : 0 ≤ t ∧ t < f.length
    · have HE := hid (show thB f t = true by simp [thB, hf, ht])
      have c2 := has_t A f.length c t w ht
      clear hf ht
      go_enter Try.func64, Try.ntmps64
      go_wp2_with fail
      refine c1.mono ?_; rintro e w' ⟨rfl, rfl⟩
      go_wp2_with fail
      refine c2.mono ?_; rintro e w' ⟨rfl, rfl⟩
      go_wp2_with fail
      go_ret
      exact ⟨ret_bool HE.out.symm, rfl⟩
    · have HE := hid (show thB f t = false by unfold thB; rw [decide_eq_false ht, Bool.and_false])
      have c2 := has_f A f.length c t w ht
      clear hf ht
      go_enter Try.func64, Try.ntmps64
      go_wp2_with fail
      refine c1.mono ?_; rintro e w' ⟨rfl, rfl⟩
      go_wp2_with fail
      refine c2.mono ?_; rintro e w' ⟨rfl, rfl⟩
      go_wp2_with fail
      go_ret
      exact ⟨ret_bool HE.out.symm, rfl⟩
  · have hf' : mapOkB f = false := by simpa using hf
    have HE := hid (show thB f t = false by simp [thB, hf'])
    rw [hf'] at c1
    clear hf hf'
    go_enter Try.func64, Try.ntmps64
    go_wp2_with fail
    refine c1.mono ?_; rintro e w' ⟨rfl, rfl⟩
    go_wp2_with fail
    go_ret
    exact ⟨ret_bool HE.out.symm, rfl⟩

theorem idxOf_ne (x : Int) : ∀ (xs : List Int) (k : Nat), k < xs.idxOf x → nth xs k ≠ x
  | [], k, h => by simp at h
  | a :: l, k, h => by
    rw [List.idxOf_cons] at h
    by_cases ha : (a == x) = true
    · rw [ha] at h; simp at h
    · have ha' : a ≠ x := by simpa using ha
      have : (a == x) = false := by simpa using ha
      rw [this] at h
      cases k with
      | zero => simpa [nth] using ha'
      | succ k =>
        have := idxOf_ne x l k (by simpa using h)
        simpa [nth] using this

/-- slices.Index -/
theorem index_c (A : Option Addr) (c : Nat) (xs : List Int) (x : Int) (w : World) (hR : RdA w A xs) (hn : xs.length ≤ 1048577) (hx : x ∈ xs) :
    Calls Try.prog 66 #[.slice A xs.length c, .int .i64 x] w fun e w' => e = .returned (.int .i64 (xs.idxOf x)) ∧ w = w' := by
  have hlt := List.idxOf_lt_length_of_mem hx
  have hne : ∀ k, k < xs.idxOf x → nth xs k ≠ x := fun k hk => idxOf_ne x xs k hk
  have hat : nth xs (xs.idxOf x) = x := by rw [nth_lt hlt]; exact List.getElem_idxOf hlt
  have HN := hid hne
  have HA := hid hat
  clear hne hat hx
  generalize xs.idxOf x = m at *
  go_enter Try.func66, Try.ntmps66
  go_wp2_with fail
  go_loop [8] (fun i => ∃ k : Nat, k ≤ m ∧ i = .int .i64 k) (fun i => xs.length - (intOf i).toNat)
  case atStart => exact ⟨0, Nat.zero_le _, rfl⟩
  case round =>
    obtain ⟨k, hk, rfl⟩ := hrel
    obtain ⟨ad, rfl, hc⟩ := hR k (by omega)
    clear hR
    by_cases hkm : k < m
    · have hq : (x == nth xs k) = false := by have := HN.out k hkm; simpa using Ne.symm this
      generalize nth xs k = y at *
      go_wp2_with fail
      go_round
      case rel => exact ⟨k + 1, by omega, by go_num⟩
      case measure => simp [intOf]; omega
    · obtain rfl : k = m := by omega
      rw [HA.out] at hc
      go_wp2_with fail
      go_ret
      exact ⟨rfl, rfl⟩

/-! ### walked -/
theorem ints_walk (f : List Int) (t j : Nat) : ints (walk f t (j + 1)) = ints (walk f t j) ++ [(it f j t : Int)] := by rw [walk_succ, ints_append]; rfl
theorem ints_walk_len (f : List Int) (t j : Nat) : (ints (walk f t j)).length = j := by rw [ints_len, walk_len]
def lenOf : Value → Nat
  | .slice _ n _ => n
  | _ => 0
/-- what holds at the label: so many things have been seen -/
def AtLabel (A : Option Addr) (c : Nat) (f : List Int) (t : Nat) (w : World) (a' : Act) (w' : World) : Prop :=
  ∃ (j : Nat) (v : Value) (u9 u10 u11 u12 u13 u14 u15 u16 u17 u18 u19 u20 u21 u22 u23 u24 u25 u26 u27 u28 : Value), j < rho f t ∧
    a' = { tmps := #[.slice A f.length c, .int .i64 t, undef, undef, .slice none 0 0, .int .i64 0, v, .int .i64 (mask (walk f t j)), .int .i64 (it f j t), u9, u10, u11, u12, u13, u14, u15, u16, u17, u18, u19, u20, u21, u22, u23, u24, u25, u26, u27, u28], defers := [] } ∧
    Own w.heap.size w' v (ints (walk f t j)) ∧ Below w.heap.size w w'
def WalkedR (w : World) (f : List Int) (t : Nat) (e : Ending) (w' : World) : Prop :=
  ∃ B d, e = .returned (.tuple #[.slice B (rho f t) d, .int .i64 (it f (rho f t) t)]) ∧ Own w.heap.size w' (.slice B (rho f t) d) (ints (way f t)) ∧ Below w.heap.size w w'

theorem AtLabel.mk {A : Option Addr} {c : Nat} {f : List Int} {t : Nat} {w w' : World} {v : Value} {M x : Nat} {u9 u10 u11 u12 u13 u14 u15 u16 u17 u18 u19 u20 u21 u22 u23 u24 u25 u26 u27 u28 : Value} (j : Nat) (hj : j < rho f t) (ho : Own w.heap.size w' v (ints (walk f t j))) (hb : Below w.heap.size w w') (hM : mask (walk f t j) = M) (hx : it f j t = x) :
    AtLabel A c f t w { tmps := #[.slice A f.length c, .int .i64 t, undef, undef, .slice none 0 0, .int .i64 0, v, .int .i64 M, .int .i64 x, u9, u10, u11, u12, u13, u14, u15, u16, u17, u18, u19, u20, u21, u22, u23, u24, u25, u26, u27, u28], defers := [] } w' :=
  ⟨j, v, u9, u10, u11, u12, u13, u14, u15, u16, u17, u18, u19, u20, u21, u22, u23, u24, u25, u26, u27, u28, hj, by rw [hM, hx], ho, hb⟩

set_option maxHeartbeats 1000000 in
theorem walked_c (A : Option Addr) (c : Nat) (f : List Int) (t : Nat) (w : World) (hR : RdA w A f) (hf : Good f) (ht : t < f.length) :
    Calls Try.prog 65 #[.slice A f.length c, .int .i64 t] w (WalkedR w f t) := by
  have hrp := rho_pos hf ht
  have hrl := rho_le hf ht
  have h7 := hf.1.2
  go_enter Try.func65, Try.ntmps65
  go_wp2
  refine wp_scope_jumps 0 (AtLabel A c f t w) (fun a' _ => 8 - lenOf (a'.tmps.getD 6 undef)) rfl ?_ ?_
  · have hj : 0 < rho f t := hrp
    have ho : Own w.heap.size w (.slice none 0 0) (ints (walk f t 0)) := Own.nil _ _
    have hb : Below w.heap.size w w := Below.refl _ _
    have hit := hf.it_lt ht 0
    have hnx : nth f (it f 0 t) = (it f (0 + 1) t : Int) := hf.nth_ap hit
    have q1 := mask_or (l := walk f t 0) (x := it f 0 t) (mem_walk_lt hf ht 0) (by omega)
    rw [← walk_succ] at q1
    have hit1 := hf.it_lt ht (0 + 1)
    have q2 := mask_and (l := walk f t (0 + 1)) (x := it f (0 + 1) t) (mem_walk_lt hf ht (0 + 1)) (by omega)
    have HI := hid (ints_walk f t 0)
    have HL := hid (ints_walk_len f t 0)
    have hsz := hb.size
    have HR := hid hR
    have HX := hid hnx
    clear hnx hR
    obtain ⟨ad, rfl, -⟩ := HR.out _ hit
    by_cases hr : (0 + 1) = rho f t
    · have hnm : it f (0 + 1) t ∈ walk f t (0 + 1) := (rho_first hf ht (by omega)).2 hr
      rw [decide_eq_true hnm, Bool.not_true] at q2
      clear hnm
      generalize hM' : mask (walk f t (0 + 1)) = M' at *
      rw [show mask (walk f t 0) = 0 from rfl] at q1
      rw [show it f 0 t = t from rfl] at q1 hit HI HX
      generalize hy : it f (0 + 1) t = y at *
      have K := hid hM'
      have KY := hid hy
      clear hM' hy
      have q1' : bits BinOp.or IntKind.i64 0 (wrap64 (2 ^ t)) = (M' : Int) := q1
      clear q1
      go_wp2
      go_step3
      rename_i K1 hK1
      refine hK1 _ _ ?_
      go_wp2_with (at_builtin; refine wpList_app1 _ rfl _ _ rfl w.heap.size _ (ints (walk f t 0)) rfl (ho.alloc _) w.heap.size (t : Int) rfl (cell_one1 _ _ _) (by have := HL.out; omega) (by simp <;> omega) ?_; intro A3 c3 w3 o3 b3; have b3' : Below w.heap.size w w3 := (hb.alloc hsz _).trans b3; obtain ⟨ad', ee, hc⟩ := (HR.out.below b3') t hit; rw [HX.out] at hc; cases ee)
      simp only [Exit.jump]
      go_ret2
      rw [← HI.out] at o3
      rw [HL.out] at o3
      refine ⟨A3, c3, ?_, ?_, b3'⟩
      · show Ending.returned (.tuple #[.slice A3 ((ints (walk f t 0)).length + 1) c3, .int .i64 (y : Int)]) = _
        rw [HL.out, ← hr, ← KY.out]
      · rw [way, ← hr]; exact o3
    · have hnm : it f (0 + 1) t ∉ walk f t (0 + 1) := fun e => hr ((rho_first hf ht (by omega)).1 e)
      rw [decide_eq_false hnm, Bool.not_false] at q2
      clear hnm
      generalize hM' : mask (walk f t (0 + 1)) = M' at *
      rw [show mask (walk f t 0) = 0 from rfl] at q1
      rw [show it f 0 t = t from rfl] at q1 hit HI HX
      generalize hy : it f (0 + 1) t = y at *
      have K := hid hM'
      have KY := hid hy
      clear hM' hy
      have q1' : bits BinOp.or IntKind.i64 0 (wrap64 (2 ^ t)) = (M' : Int) := q1
      clear q1
      go_wp2
      go_step3
      rename_i K1 hK1
      refine hK1 _ _ ?_
      go_wp2_with (at_builtin; refine wpList_app1 _ rfl _ _ rfl w.heap.size _ (ints (walk f t 0)) rfl (ho.alloc _) w.heap.size (t : Int) rfl (cell_one1 _ _ _) (by have := HL.out; omega) (by simp <;> omega) ?_; intro A3 c3 w3 o3 b3; have b3' : Below w.heap.size w w3 := (hb.alloc hsz _).trans b3; obtain ⟨ad', ee, hc⟩ := (HR.out.below b3') t hit; rw [HX.out] at hc; cases ee)
      refine wp_goto ?_
      rw [← HI.out] at o3
      refine ⟨rfl, AtLabel.mk (0 + 1) (by omega) o3 b3' K.out KY.out⟩
  · rintro a' wr ⟨j, v, u9, u10, u11, u12, u13, u14, u15, u16, u17, u18, u19, u20, u21, u22, u23, u24, u25, u26, u27, u28, hj, rfl, ho, hb⟩
    have hit := hf.it_lt ht j
    have hnx : nth f (it f j t) = (it f (j + 1) t : Int) := hf.nth_ap hit
    have q1 := mask_or (l := walk f t j) (x := it f j t) (mem_walk_lt hf ht j) (by omega)
    rw [← walk_succ] at q1
    have hit1 := hf.it_lt ht (j + 1)
    have q2 := mask_and (l := walk f t (j + 1)) (x := it f (j + 1) t) (mem_walk_lt hf ht (j + 1)) (by omega)
    have HI := hid (ints_walk f t j)
    have HL := hid (ints_walk_len f t j)
    have hsz := hb.size
    have HR := hid hR
    have HX := hid hnx
    clear hnx hR
    obtain ⟨ad, rfl, -⟩ := HR.out _ hit
    by_cases hr : (j + 1) = rho f t
    · have hnm : it f (j + 1) t ∈ walk f t (j + 1) := (rho_first hf ht (by omega)).2 hr
      rw [decide_eq_true hnm, Bool.not_true] at q2
      clear hnm
      generalize hM' : mask (walk f t (j + 1)) = M' at *
      generalize hM : mask (walk f t j) = M at *
      have K := hid hM'
      clear hM hM'
      generalize hx : it f j t = x at *
      generalize hy : it f (j + 1) t = y at *
      have KX := hid hx
      have KY := hid hy
      clear hx hy
      go_wp2_with (at_builtin; refine wpList_app1 _ rfl _ _ rfl w.heap.size _ (ints (walk f t j)) rfl (ho.alloc _) wr.heap.size (x : Int) rfl (cell_one1 _ _ _) (by have := HL.out; omega) (by simp <;> omega) ?_; intro A3 c3 w3 o3 b3; have b3' : Below w.heap.size w w3 := (hb.alloc hsz _).trans b3; obtain ⟨ad', ee, hc⟩ := (HR.out.below b3') x hit; rw [HX.out] at hc; cases ee)
      simp only [Exit.jump]
      go_ret2
      rw [← HI.out] at o3
      rw [HL.out] at o3
      refine ⟨A3, c3, ?_, ?_, b3'⟩
      · show Ending.returned (.tuple #[.slice A3 ((ints (walk f t j)).length + 1) c3, .int .i64 (y : Int)]) = _
        rw [HL.out, ← hr, ← KY.out]
      · rw [way, ← hr]; exact o3
    · have hnm : it f (j + 1) t ∉ walk f t (j + 1) := fun e => hr ((rho_first hf ht (by omega)).1 e)
      rw [decide_eq_false hnm, Bool.not_false] at q2
      clear hnm
      generalize hM' : mask (walk f t (j + 1)) = M' at *
      generalize hM : mask (walk f t j) = M at *
      have K := hid hM'
      clear hM hM'
      generalize hx : it f j t = x at *
      generalize hy : it f (j + 1) t = y at *
      have KX := hid hx
      have KY := hid hy
      clear hx hy
      go_wp2_with (at_builtin; refine wpList_app1 _ rfl _ _ rfl w.heap.size _ (ints (walk f t j)) rfl (ho.alloc _) wr.heap.size (x : Int) rfl (cell_one1 _ _ _) (by have := HL.out; omega) (by simp <;> omega) ?_; intro A3 c3 w3 o3 b3; have b3' : Below w.heap.size w w3 := (hb.alloc hsz _).trans b3; obtain ⟨ad', ee, hc⟩ := (HR.out.below b3') x hit; rw [HX.out] at hc; cases ee)
      refine wp_goto ?_
      rw [← HI.out] at o3
      refine ⟨rfl, AtLabel.mk (j + 1) (by omega) o3 b3' K.out KY.out, ?_⟩
      obtain ⟨A0, c0, rfl, -⟩ := ho.form
      have := HL.out
      show 8 - ((ints (walk f t j)).length + 1) < 8 - (ints (walk f t j)).length
      omega

end Go.Proofs.Ytkbfcaaihellfaa

/- Contracts of chapter 1: turned maps; names. -/
namespace Go.Proofs.Ytkbfcaaihellfaa
open Go.RowKit
set_option linter.unusedVariables false

/-- the things to which the first k are led -/
def imgs (f : List Int) (k : Nat) : List Nat := (List.range k).map (ap f)
theorem imgs_succ (f : List Int) (k : Nat) : imgs f (k + 1) = imgs f k ++ [ap f k] := by simp [imgs, List.range_succ]
theorem mem_imgs {f : List Int} {k x : Nat} : x ∈ imgs f k ↔ ∃ j, j < k ∧ ap f j = x := by simp [imgs]
theorem imgs_lt {f : List Int} (h : Good f) {k : Nat} (hk : k ≤ f.length) : ∀ x ∈ imgs f k, x < 8 := by
  intro x hx
  obtain ⟨j, hj, rfl⟩ := mem_imgs.1 hx
  have := h.ap_lt (show j < f.length by omega)
  have := h.1.2
  omega
/-- what has been led back behind k steps -/
def bk (f : List Int) : Nat → List Int
  | 0 => List.replicate f.length 0
  | k + 1 => (bk f k).set (ap f k) (k : Int)
theorem bk_len (f : List Int) : ∀ k, (bk f k).length = f.length
  | 0 => by simp [bk]
  | k + 1 => by simp [bk, bk_len f k]
theorem bk_nth {f : List Int} (hf : Good f) (hi : Inj f) : ∀ k, k ≤ f.length → ∀ j, j < k → nth (bk f k) (ap f j) = (j : Int)
  | 0, _, j, hj => by omega
  | k + 1, hk, j, hj => by
    have hl := hf.ap_lt (show k < f.length by omega)
    rw [bk]
    by_cases e : j = k
    · subst e
      simp [nth, bk_len, hl]
    · have hne : ap f k ≠ ap f j := fun h => e (hi j k (by omega) (by omega) h.symm)
      have := bk_nth hf hi k (by omega) j (by omega)
      simpa [nth, List.getElem?_set, hne] using this
theorem bk_all {f : List Int} (hf : Good f) (hi : Inj f) : bk f f.length = mk f.length (back f) := by
  refine ext_nth (by rw [bk_len, mk_len]) fun x hx => ?_
  rw [bk_len] at hx
  obtain ⟨k, hk, rfl⟩ := inj_surj hf hi hx
  rw [bk_nth hf hi _ (Nat.le_refl _) k hk, nth_mk hx, back_ap hf hi hk]
/-- a map turned round and the word whether there is one are handed back -/
def TurnR (w : World) (xs : List Int) (b : Bool) (e : Ending) (w' : World) : Prop := ∃ A c, e = .returned (.tuple #[.slice A xs.length c, .bool b]) ∧ Own w.heap.size w' (.slice A xs.length c) xs ∧ Below w.heap.size w w' ∧ (xs = [] → A = none ∧ c = 0)
theorem TurnR.no (w : World) {w' : World} (hb : Below w.heap.size w w') : TurnR w [] false (.returned (.tuple #[.slice none 0 0, .bool false])) w' := ⟨none, 0, rfl, Own.nil _ _, hb, fun _ => ⟨rfl, rfl⟩⟩

theorem turnR_mk {w wr : World} {n c : Nat} {A : Option Addr} {F : Nat → Nat} {L : List Int} {b : Bool} (h : L = mk n F) (ho : Own w.heap.size wr (.slice A n c) (mk n F)) (hb : Below w.heap.size w wr) (hn : 1 ≤ n) : TurnR w L b (.returned (.tuple #[.slice A n c, .bool b])) wr := by
  subst h
  refine ⟨A, c, by rw [mk_len], by rw [mk_len]; exact ho, hb, fun e => ?_⟩
  have := congrArg List.length e
  rw [mk_len] at this
  simp at this
  omega

set_option maxHeartbeats 400000 in
theorem iTurnedOf_c (A : Option Addr) (c : Nat) (f : List Int) (w : World) (hR : RdA w A f) (hn : f.length ≤ 1048577) :
    Calls Try.prog 35 #[.slice A f.length c] w (TurnR w (turnedL f) (turnedB f)) := by
  have c1 := iMapOk_c A c f w hR hn
  by_cases hf : mapOkB f = true
  · rw [hf] at c1
    have gf := good_of hf
    have HG := hid gf
    have h1 := gf.1.1
    have h7 := gf.1.2
    have C1 := hid c1
    clear hf gf c1
    go_enter Try.func35, Try.ntmps35
    go_wp2_with fail
    refine C1.out.mono ?_; rintro e w' ⟨rfl, rfl⟩
    go_wp2_with (at_make; refine wpList_mk _ rfl _ _ rfl _ f.length rfl rfl rfl (by omega) ?_; intro w1 hown hb)
    go_loopw [5, 16] (fun s i wr => ∃ k : Nat, k ≤ f.length ∧ i = .int .i64 k ∧ s = .int .i64 (mask (imgs f k)) ∧ Hid (∀ i j, i < k → j < k → ap f i = ap f j → i = j) ∧ Own w.heap.size wr (.slice (some ⟨w.heap.size, 0, none⟩) f.length f.length) (bk f k) ∧ Below w.heap.size w wr) (fun _ i _ => f.length - (intOf i).toNat)
    case atStart => exact ⟨0, Nat.zero_le _, rfl, rfl, hid (fun i j hi => by omega), hown, hb⟩
    case round =>
      clear hown hb
      obtain ⟨k, hk, rfl, rfl, hinj, hown, hb⟩ := hrel
      by_cases hlt : k < f.length
      · obtain ⟨ad, rfl, hc⟩ := (hR.below hb) k hlt
        have hlt2 := HG.out.ap_lt hlt
        rw [HG.out.nth_ap hlt] at hc
        have q2 := mask_and (l := imgs f k) (x := ap f k) (imgs_lt HG.out hk) (by omega)
        have q1 := mask_or (l := imgs f k) (x := ap f k) (imgs_lt HG.out hk) (by omega)
        rw [← imgs_succ] at q1
        by_cases hm : ap f k ∈ imgs f k
        · rw [decide_eq_true hm, Bool.not_true] at q2
          have HN := hid (show turnedB f = false by
            cases hB : turnedB f with
            | false => rfl
            | true =>
              obtain ⟨j, hj, e⟩ := mem_imgs.1 hm
              have := (turnedB_iff.1 hB).2 j k (by omega) hlt e
              omega)
          clear hm hown hR q1
          generalize mask (imgs f k) = M at *
          generalize ap f k = X at *
          go_wp2
          go_ret2
          rw [show turnedL f = [] by rw [turnedL, if_neg (by rw [HN.out]; simp)], HN.out]
          exact TurnR.no w hb
        · rw [decide_eq_false hm, Bool.not_false] at q2
          have HI := hid (show ∀ i j, i < k + 1 → j < k + 1 → ap f i = ap f j → i = j by
            intro i j hi hj e
            by_cases hik : i = k
            · by_cases hjk : j = k
              · omega
              · exact absurd (mem_imgs.2 ⟨j, by omega, by rw [← e, hik]⟩) hm
            · by_cases hjk : j = k
              · exact absurd (mem_imgs.2 ⟨i, by omega, by rw [e, hjk]⟩) hm
              · exact hinj.out i j (by omega) (by omega) e)
          have hc2 := hown.cell (k := ap f k) (by rw [bk_len]; exact hlt2)
          have hf2 := hown.frozen (ap f k)
          have hs := hown.store (ap f k) (k : Int)
          rw [show (bk f k).set (ap f k) (k : Int) = bk f (k + 1) from rfl] at hs
          have hbs := hb.setCell (p := ⟨w.heap.size, ap f k, none⟩) (Nat.le_refl _) (.int .i64 (k : Int))
          clear hown hb hR hm hinj
          generalize hM' : mask (imgs f (k + 1)) = M' at *
          have HM := hid hM'
          clear hM'
          generalize mask (imgs f k) = M at *
          generalize ap f k = X at *
          go_wp2
          go_roundw
          case rel => exact ⟨k + 1, by omega, by go_num, by rw [HM.out], HI, hs, hbs⟩
          case measure => simp [intOf]; omega
      · obtain rfl : k = f.length := by omega
        have hI : Inj f := fun i j hi hj e => hinj.out i j hi hj e
        have HN := hid (turnedB_iff.2 ⟨HG.out, hI⟩)
        rw [bk_all HG.out hI] at hown
        clear hR hI hinj
        generalize mask (imgs f f.length) = M at *
        go_wp2
        go_ret2
        rw [HN.out]
        exact turnR_mk (by rw [turnedL, if_pos HN.out]) hown hb (by omega)
  · rw [show mapOkB f = false by simpa using hf] at c1
    have HN := hid (show turnedB f = false by simp [turnedB, hf])
    clear hf hR
    go_enter Try.func35, Try.ntmps35
    go_wp2_with fail
    refine c1.mono ?_; rintro e w' ⟨rfl, rfl⟩
    go_wp2_with fail
    go_ret2
    rw [show turnedL f = [] by rw [turnedL, if_neg (by rw [HN.out]; simp)], HN.out]
    exact TurnR.no w (Below.refl _ _)

end Go.Proofs.Ytkbfcaaihellfaa
