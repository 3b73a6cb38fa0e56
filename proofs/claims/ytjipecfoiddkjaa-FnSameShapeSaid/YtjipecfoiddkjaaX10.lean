/- Contracts of chapter 5: the text of a shape, the reference's. -/
import Derived.Test.YtjipecfoiddkjaaX9
namespace Go.Proofs.Ytjipecfoiddkjaa
open Go.RowKit Go.Sort
set_option linter.unusedVariables false

theorem own_some {wr : World} {v : Value} {B0 B2 L : Nat} {p : Addr} {T : List Txt} (hT : T.length = L) (o2 : OwnS B0 wr (.slice (some p) 0 0) []) (ho : (L = 0 ∧ v = .slice (some p) 0 0) ∨ (1 ≤ L ∧ OwnS B2 wr v (T.take L))) : ∃ B, OwnS B wr v T := by
  rcases ho with ⟨h0, rfl⟩ | ⟨_, ho⟩
  · have ht : T = [] := List.eq_nil_of_length_eq_zero (by rw [hT]; exact h0)
    exact ⟨_, by rw [ht]; exact o2⟩
  · rw [← hT, List.take_length] at ho
    exact ⟨_, ho⟩

set_option maxHeartbeats 4000000 in
theorem sShapeText_c (A : Option Addr) (c : Nat) (f : List Int) (w : World) (hR : RdA w A f) (hn : f.length ≤ 1048577) :
    Calls Try.prog 17 #[.slice A f.length c] w fun e w' => e = .returned (.string (bs (shapeT f))) ∧ Below w.heap.size w w' := by
  have o0 := OwnS.new_ w
  have b0 : Below w.heap.size w (w.alloc (.cells #[] 9)) := (Below.refl _ _).alloc (Nat.le_refl _) _
  have c1 := hid (sLoopsOf_c A c f _ (hR.below b0) hn)
  have C2 := hid (fun t W (hb : Below w.heap.size w W) => sLoopText_c A c f t W (hR.below hb) hn)
  have HT := hid (fun k (h : k < (loopsLL f).length) => loopsT_take h)
  have HLO := hid (loops_long' f)
  have H7 := hid (loops7 f)
  have HTL := hid (loopsT_len f)
  have HSL := hid (loopsT_le f)
  have HE := hid (show shapeT f = jn (sortT (loopsT f)) (sortT (loopsT f)).length from (jn_all _).symm)
  clear hR
  generalize loopsLL f = L at *
  generalize loopsT f = T at *
  go_enter Try.func17, Try.ntmps17
  go_wp2_with fail
  refine c1.out.mono ?_; rintro e w2 ⟨D, d, rfl, hrr, b2'⟩
  have b2 := b0.trans (b2'.mono b0.size)
  have o2 := o0.below b2'
  have hz2 := b2'.size
  clear c1 o0 b0 b2'
  have hLL : L.length ≤ 7 := H7.out
  go_wp2_with fail
  go_loopw [3, 5] (fun v i wr => ∃ k : Nat, k ≤ L.length ∧ i = .int .i64 k ∧ ((k = 0 ∧ v = .slice (some ⟨w.heap.size, 0, none⟩) 0 0) ∨ (1 ≤ k ∧ OwnS w2.heap.size wr v (T.take k))) ∧ Below w2.heap.size w2 wr) (fun _ i _ => L.length - (intOf i).toNat)
  case atStart => exact ⟨0, Nat.zero_le _, rfl, .inl ⟨rfl, rfl⟩, Below.refl _ _⟩
  case round =>
    obtain ⟨k, hk, rfl, ho, hb⟩ := hrel
    have hbw := b2.trans (hb.mono b2.size)
    by_cases hlt : k < L.length
    · obtain ⟨g, E, e0, rfl, hg, hc, hr0⟩ := (hrr.below hb).at_ hlt
      obtain ⟨ad, rfl, hc0⟩ := hr0.rd 0 (HLO.out k hlt)
      rw [add_00] at hc0
      have hlp : 0 < (gl L k).length := HLO.out k hlt
      have HN := hid (HT.out k hlt)
      have K2 := hid (C2.out (nth (gl L k) 0) wr hbw)
      have HK := hid (show (T.take k).length ≤ 7 by rw [List.length_take]; have := HTL.out; omega)
      clear hr0
      generalize loopTV f (nth (gl L k) 0) = Y at *
      generalize nth (gl L k) 0 = X at *
      generalize (gl L k).length = Z at *
      rcases ho with ⟨rfl, rfl⟩ | ⟨hk1, ho⟩
      · rw [List.take_zero, List.nil_append] at HN
        clear HK
        go_wp2_with fail
        refine K2.out.mono ?_; rintro e w5 ⟨rfl, b5⟩
        have hb5 := hb.trans (b5.mono hb.size)
        have hsz := hb5.size
        clear hb hbw K2 hc hc0
        go_wp2_with (at_builtin; refine wpList_appT0 _ rfl _ _ rfl ⟨w.heap.size, 0, none⟩ rfl w5.heap.size Y rfl (cell_one1 _ _ _) ?_; intro A4 c4 w4 o4 b4)
        have hb6 := hb5.alloc hsz (.cells #[.string (bs Y)] 9)
        have b4' : Below w2.heap.size w2 w4 := hb6.trans (b4.mono hb6.size)
        have o4' : OwnS w2.heap.size w4 (.slice A4 1 c4) [Y] := o4.mono hb6.size
        clear b4 o4
        go_wp2_with fail
        go_roundw
        case rel => exact ⟨1, by omega, by go_num, .inr ⟨Nat.le_refl _, by rw [HN.out]; exact o4'⟩, b4'⟩
        case measure => simp [intOf]; omega
      · generalize T.take k = M at *
        go_wp2_with fail
        refine K2.out.mono ?_; rintro e w5 ⟨rfl, b5⟩
        have hb5 := hb.trans (b5.mono hb.size)
        have ho5 := ho.below b5
        have hsz := hb5.size
        clear ho hb hbw K2 hc hc0
        go_wp2_with (at_builtin; refine wpList_appT _ rfl _ _ rfl w2.heap.size _ M rfl (ho5.alloc _) w5.heap.size Y rfl (cell_one1 _ _ _) (by have := HK.out; omega) (by simp <;> omega) ?_; intro A4 c4 w4 o4 b4)
        have b4' : Below w2.heap.size w2 w4 := (hb5.alloc hsz _).trans b4
        clear b4
        go_wp2_with fail
        go_roundw
        case rel => exact ⟨k + 1, by omega, by go_num, .inr ⟨by omega, by rw [HN.out]; exact o4⟩, b4'⟩
        case measure => simp [intOf]; omega
    · obtain rfl : k = L.length := by omega
      have HT7 := hid (show T.length ≤ 7 by rw [HTL.out]; omega)
      obtain ⟨B, ho⟩ := own_some HTL.out (o2.below hb) ho
      have K3 := hid (l5Sorted_c B wr _ T ho (by have := HT7.out; omega))
      have HS7 := hid (show (sortT T).length ≤ 7 by rw [sortT_len]; exact HT7.out)
      obtain ⟨A0, c0, rfl⟩ := ho.form
      clear C2 HT HLO ho HTL
      generalize sortT T = S at *
      have hsl : S.length ≤ 7 := HS7.out
      go_wp2_with fail
      refine K3.out.mono ?_; rintro e w6 ⟨A5, c5, rfl, o5, b5⟩
      have HO := hid o5
      have hb5 := hbw.trans (b5.mono hbw.size)
      clear o5
      go_wp2_with fail
      go_loop [6, 7] (fun s i => ∃ j : Nat, j ≤ S.length ∧ i = .int .i64 j ∧ s = .string (bs (jn S j))) (fun _ i => S.length - (intOf i).toNat)
      case atStart => exact ⟨0, Nat.zero_le _, rfl, rfl⟩
      case round =>
        obtain ⟨j, hj, rfl, rfl⟩ := hrel
        by_cases hlj : j < S.length
        · obtain ⟨g, c', e9, hg, _, _⟩ := HO.out.pos (by omega)
          cases e9
          have hx := List.getElem?_eq_getElem hlj
          have hc := HO.out.cell hx
          have hlx := HSL.out _ (List.getElem_mem hlj)
          have hln := jn_len HSL.out j hj
          by_cases h0 : j = 0
          · subst h0
            have HN := hid (jn_one hlj)
            have h9 : (jn S 0).length = 0 := by simp [jn, Lib.join_nil]
            have hq := str_add (jn S 0) S[0] (by rw [h9, Nat.zero_add]; exact Nat.le_trans hlx (by omega))
            clear h9
            clear hx hln hlx
            generalize S[0] = Y at *
            rw [← HN.out] at hq
            obtain ⟨Z, hZ⟩ : ∃ Z, jn S 1 = Z := ⟨_, rfl⟩
            rw [hZ] at hq
            have HZ := hid hZ
            clear hZ
            generalize jn S 0 = X at *
            go_wp2_with fail
            go_round
            case rel => exact ⟨1, by omega, by go_num, by rw [HZ.out]⟩
            case measure => simp [intOf]; omega
          · have HN := hid (jn_succ (by omega) hlj)
            have hl9 : (jn S j).length ≤ 20000000000 := Nat.le_trans hln (Nat.le_trans (Nat.mul_le_mul_right _ (show j ≤ 7 by omega)) (by omega))
            have hl8 : S[j].length ≤ 2000000000 := Nat.le_trans hlx (by omega)
            clear hln hlx
            have hq1 : Op.stringOp .add (bs (jn S j)) ⟨#[43]⟩ = pure (.string (bs (jn S j ++ [43]))) := str_add (jn S j) [43] (by rw [List.length_singleton]; omega)
            have hq := str_add (jn S j ++ [43]) S[j] (by rw [List.length_append, List.length_singleton]; omega)
            have hj0 : 0 < j := by omega
            clear hx hl9 hl8 h0
            generalize S[j] = Y at *
            generalize jn S j = X at *
            generalize X ++ [43] = X2 at *
            go_wp2_with fail
            go_round
            case rel => exact ⟨j + 1, by omega, by go_num, by rw [HN.out]⟩
            case measure => simp [intOf]; omega
        · obtain rfl : j = S.length := by omega
          rw [← HE.out]
          go_wp2_with fail
          go_ret
          exact ⟨rfl, hb5⟩

theorem bs_tl (l : Txt) : (bs l).toList = l := by simp [bs]
/-- of one shape -/
def sameV (f g : List Int) : Bool := mapOkB f && (mapOkB g && decide (shapeT f = shapeT g))
set_option maxHeartbeats 1000000 in
theorem iSameShape_c (A0 A1 : Option Addr) (c0 c1 : Nat) (f g : List Int) (w : World) (r0 : RdA w A0 f) (r1 : RdA w A1 g) (h0 : f.length ≤ 1048577) (h1 : g.length ≤ 1048577) :
    Calls Try.prog 14 #[.slice A0 f.length c0, .slice A1 g.length c1] w fun e w' => e = .returned (.bool (sameV f g)) ∧ Below w.heap.size w w' := by
  have k1 := hid (iMapOk_c A0 c0 f w r0 h0)
  have k2 := hid (iMapOk_c A1 c1 g w r1 h1)
  have k3 := hid (iShapeText_c A0 c0 f w r0 h0)
  have K4 := hid (fun W (hb : Below w.heap.size w W) => iShapeText_c A1 c1 g W (r1.below hb) h1)
  have HE := hid (show sameV f g = (mapOkB f && (mapOkB g && decide (shapeT f = shapeT g))) from rfl)
  have HB := hid (fun h => bs_inj (l := shapeT f) (r := shapeT g) h)
  clear r0 r1
  generalize shapeT f = X at *
  generalize shapeT g = Y at *
  generalize mapOkB f = p at *
  generalize mapOkB g = q at *
  cases p with
  | false =>
    go_enter Try.func14, Try.ntmps14
    go_wp2_with fail
    refine k1.out.mono ?_; rintro e w' ⟨rfl, rfl⟩
    go_wp2_with fail
    go_ret
    rw [HE.out]
    exact ⟨rfl, Below.refl _ _⟩
  | true =>
    cases q with
    | false =>
      go_enter Try.func14, Try.ntmps14
      go_wp2_with fail
      refine k1.out.mono ?_; rintro e w' ⟨rfl, rfl⟩
      go_wp2_with fail
      refine k2.out.mono ?_; rintro e w' ⟨rfl, rfl⟩
      go_wp2_with fail
      go_ret
      rw [HE.out]
      exact ⟨rfl, Below.refl _ _⟩
    | true =>
      go_enter Try.func14, Try.ntmps14
      go_wp2_with fail
      refine k1.out.mono ?_; rintro e w' ⟨rfl, rfl⟩
      go_wp2_with fail
      refine k2.out.mono ?_; rintro e w' ⟨rfl, rfl⟩
      go_wp2_with fail
      refine k3.out.mono ?_; rintro e w3 ⟨rfl, b3⟩
      go_wp2_with fail
      refine (K4.out w3 b3).mono ?_; rintro e w4 ⟨rfl, b4⟩
      by_cases hxy : X = Y
      · subst hxy
        go_wp2_with fail
        go_ret
        rw [HE.out]
        exact ⟨by simp, b3.trans (b4.mono b3.size)⟩
      · have hne : ¬ (bs X = bs Y) := fun h => hxy (HB.out h)
        go_wp2_with fail
        go_ret
        rw [HE.out]
        exact ⟨by simp [hxy, bs_tl], b3.trans (b4.mono b3.size)⟩

set_option maxHeartbeats 1000000 in
theorem sSameShape_c (A0 A1 : Option Addr) (c0 c1 : Nat) (f g : List Int) (w : World) (r0 : RdA w A0 f) (r1 : RdA w A1 g) (h0 : f.length ≤ 1048577) (h1 : g.length ≤ 1048577) :
    Calls Try.prog 21 #[.slice A0 f.length c0, .slice A1 g.length c1] w fun e w' => e = .returned (.bool (sameV f g)) ∧ Below w.heap.size w w' := by
  have k1 := hid (sMapOk_c A0 c0 f w r0 h0)
  have k2 := hid (sMapOk_c A1 c1 g w r1 h1)
  have k3 := hid (sShapeText_c A0 c0 f w r0 h0)
  have K4 := hid (fun W (hb : Below w.heap.size w W) => sShapeText_c A1 c1 g W (r1.below hb) h1)
  have HE := hid (show sameV f g = (mapOkB f && (mapOkB g && decide (shapeT f = shapeT g))) from rfl)
  have HB := hid (fun h => bs_inj (l := shapeT f) (r := shapeT g) h)
  clear r0 r1
  generalize shapeT f = X at *
  generalize shapeT g = Y at *
  generalize mapOkB f = p at *
  generalize mapOkB g = q at *
  cases p with
  | false =>
    go_enter Try.func21, Try.ntmps21
    go_wp2_with fail
    refine k1.out.mono ?_; rintro e w' ⟨rfl, rfl⟩
    go_wp2_with fail
    go_ret
    rw [HE.out]
    exact ⟨rfl, Below.refl _ _⟩
  | true =>
    cases q with
    | false =>
      go_enter Try.func21, Try.ntmps21
      go_wp2_with fail
      refine k1.out.mono ?_; rintro e w' ⟨rfl, rfl⟩
      go_wp2_with fail
      refine k2.out.mono ?_; rintro e w' ⟨rfl, rfl⟩
      go_wp2_with fail
      go_ret
      rw [HE.out]
      exact ⟨rfl, Below.refl _ _⟩
    | true =>
      go_enter Try.func21, Try.ntmps21
      go_wp2_with fail
      refine k1.out.mono ?_; rintro e w' ⟨rfl, rfl⟩
      go_wp2_with fail
      refine k2.out.mono ?_; rintro e w' ⟨rfl, rfl⟩
      go_wp2_with fail
      refine k3.out.mono ?_; rintro e w3 ⟨rfl, b3⟩
      go_wp2_with fail
      refine (K4.out w3 b3).mono ?_; rintro e w4 ⟨rfl, b4⟩
      by_cases hxy : X = Y
      · subst hxy
        go_wp2_with fail
        go_ret
        rw [HE.out]
        exact ⟨by simp, b3.trans (b4.mono b3.size)⟩
      · have hne : ¬ (bs X = bs Y) := fun h => hxy (HB.out h)
        go_wp2_with fail
        go_ret
        rw [HE.out]
        exact ⟨by simp [hxy, bs_tl], b3.trans (b4.mono b3.size)⟩

end Go.Proofs.Ytjipecfoiddkjaa
