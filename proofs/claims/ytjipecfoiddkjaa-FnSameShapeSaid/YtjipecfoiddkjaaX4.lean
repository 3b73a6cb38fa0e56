/- Contracts of chapter 5, the reference's: texts of trees. -/
import Derived.Test.YtjipecfoiddkjaaX3
namespace Go.Proofs.Ytjipecfoiddkjaa
open Go.RowKit Go.Sort
set_option linter.unusedVariables false

theorem parts_le {f : List Int} (h7 : f.length ≤ 7) (t k : Nat) : ∀ s ∈ (childs f t k).map (tree f), s.length ≤ 268435456 := fun s hs => by
  obtain ⟨x, _, rfl⟩ := List.mem_map.1 hs
  exact tree_len h7 x
theorem take_flat {ss : List Txt} {k : Nat} {x : Txt} (h : ss[k]? = some x) : (ss.take (k + 1)).flatten = (ss.take k).flatten ++ x := by
  rw [List.take_add_one, h]; simp
theorem taken_le {ss : List Txt} {M : Nat} (h : ∀ s ∈ ss, s.length ≤ M) (hn : ss.length ≤ 7) (k : Nat) : (ss.take k).flatten.length ≤ 7 * M :=
  Nat.le_trans (flat_le fun s hs => h s (List.mem_of_mem_take hs)) (Nat.mul_le_mul_right M (by rw [List.length_take]; omega))

set_option maxHeartbeats 4000000 in
theorem sTree_in (A : Option Addr) (c : Nat) (f : List Int) (hf : Good f) (d : Nat) : ∀ (t : Nat) (w : World), t < f.length → 7 ≤ tail f t + d → RdA w A f →
    Calls Try.prog 58 #[.slice A f.length c, .int .i64 t] w fun e w' => e = .returned (.string (bs (tree f t))) ∧ Below w.heap.size w w' := by
  have h7 := hf.1.2
  induction d with
  | zero =>
    intro t w ht hd
    have := tail_le hf ht
    omega
  | succ d ih =>
    intro t w ht hd hR
    have IH := hid ih
    have HF := hid hf
    have HE := hid (tree_eq hf ht)
    have HPL := hid (fun k => parts_le h7 t k)
    have HCL := hid (fun k => childs_len f t k)
    have HTL := hid (tail_le hf ht)
    have C1 := hid (fun (k : Int) W (hb : Below w.heap.size w W) => sOnLoop_c A c f k W (hR.below hb) (by omega))
    have HR := hid hR
    have o0 := OwnS.new_ w
    have b0 : Below w.heap.size w (w.alloc (.cells #[] 9)) := (Below.refl _ _).alloc (Nat.le_refl _) _
    clear ih hf hR
    go_enter Try.func58, Try.ntmps58
    go_wp2_with fail
    go_loopw [5, 6] (fun v i wr => ∃ k : Nat, k ≤ f.length ∧ i = .int .i64 k ∧ OwnS w.heap.size wr v ((childs f t k).map (tree f)) ∧ Below w.heap.size w wr) (fun _ i _ => f.length - (intOf i).toNat)
    case atStart => exact ⟨0, Nat.zero_le _, rfl, o0, b0⟩
    case round =>
      clear o0 b0
      obtain ⟨k, hk, rfl, ho, hb⟩ := hrel
      by_cases hlt : k < f.length
      · obtain ⟨ad, rfl, hc⟩ := (HR.out.below hb) k hlt
        by_cases hx : nth f k = t
        · have k1 := C1.out k wr hb
          rw [tailV_yes (th_of HF.out hlt)] at k1
          by_cases h0 : tail f k = 0
          · have HN := hid (show (childs f t (k + 1)).map (tree f) = (childs f t k).map (tree f) by rw [childs_no (fun h => h.2 h0)])
            rw [h0] at k1
            rw [hx] at hc
            have k1 := hid k1
            clear C1 hx h0
            generalize (childs f t k).map (tree f) = M at *
            go_wp2_with fail
            refine k1.out.mono ?_; rintro e w2 ⟨rfl, b2⟩
            go_wp2_with fail
            go_roundw
            case rel => exact ⟨k + 1, by omega, by go_num, by rw [HN.out]; exact ho.below (b2.mono (Nat.le_refl _)), hb.trans (b2.mono hb.size)⟩
            case measure => simp [intOf]; omega
          · have HN := hid (show (childs f t (k + 1)).map (tree f) = (childs f t k).map (tree f) ++ [tree f k] by rw [childs_yes hx h0, List.map_append]; rfl)
            have q2 : ((tail f k : Int) == 0) = false := by simp; omega
            have hct := (child_tail HF.out (mem_childs.2 ⟨hlt, hx, h0⟩)).1
            have K2 := hid (fun W (hb : Below w.heap.size w W) => IH.out k W hlt (by omega) (HR.out.below hb))
            have HL := hid (show ((childs f t k).map (tree f)).length ≤ 1000 by rw [List.length_map]; have := HCL.out k; omega)
            rw [hx] at hc
            have k1 := hid k1
            clear C1 hx h0 hct
            generalize (childs f t k).map (tree f) = M at *
            generalize tree f k = Y at *
            generalize tail f k = U at *
            go_wp2_with fail
            refine k1.out.mono ?_; rintro e w2 ⟨rfl, b2⟩
            have hb2 := hb.trans (b2.mono hb.size)
            have k2 := hid (K2.out w2 hb2)
            clear K2
            go_wp2_with fail
            refine k2.out.mono ?_; rintro e w3 ⟨rfl, b3⟩
            have hb3 := hb2.trans (b3.mono hb2.size)
            have ho3 := (ho.below (b2.mono (Nat.le_refl _))).below (b3.mono (Nat.le_refl _))
            have hsz := hb3.size
            clear ho hb k1 k2
            go_wp2_with (at_builtin; refine wpList_appT _ rfl _ _ rfl w.heap.size _ M rfl (ho3.alloc _) w3.heap.size Y rfl (cell_one1 _ _ _) (by have := HL.out; omega) (by simp <;> omega) ?_; intro A4 c4 w4 o4 b4)
            have b4' : Below w.heap.size w w4 := (hb3.alloc hsz _).trans b4
            clear b4
            go_wp2_with fail
            go_roundw
            case rel => exact ⟨k + 1, by omega, by go_num, by rw [HN.out]; exact o4, b4'⟩
            case measure => simp [intOf]; omega
        · have HN := hid (show (childs f t (k + 1)).map (tree f) = (childs f t k).map (tree f) by rw [childs_no (fun h => hx h.1)])
          have q1 : (nth f k == (t : Int)) = false := by simpa using hx
          clear C1 hx
          generalize nth f k = X at *
          generalize (childs f t k).map (tree f) = M at *
          go_wp2_with fail
          go_roundw
          case rel => exact ⟨k + 1, by omega, by go_num, by rw [HN.out]; exact ho, hb⟩
          case measure => simp [intOf]; omega
      · obtain rfl : k = f.length := by omega
        clear C1 IH
        have HML := hid (show ((childs f t f.length).map (tree f)).length ≤ 7 by rw [List.length_map]; have := HCL.out f.length; omega)
        have HMM := hid (HPL.out f.length)
        generalize (childs f t f.length).map (tree f) = M at *
        have K1 := hid (l5Sorted_c w.heap.size wr _ M ho (by have := HML.out; omega))
        have HSL := hid (show (sortT M).length ≤ 7 by rw [sortT_len]; exact HML.out)
        have HSM := hid (show ∀ s ∈ sortT M, s.length ≤ 268435456 from fun s hs => HMM.out s ((sortT_perm _).mem_iff.1 hs))
        obtain ⟨A4, c4, rfl⟩ := ho.form
        generalize sortT M = S at *
        have hsl : S.length ≤ 7 := HSL.out
        go_wp2_with fail
        refine K1.out.mono ?_; rintro e w2 ⟨A5, c5, rfl, o5, b5⟩
        have hb5 := hb.trans (b5.mono hb.size)
        have HO := hid o5
        clear o5 ho hb
        go_wp2_with fail
        go_loop [7, 8] (fun s i => ∃ j : Nat, j ≤ S.length ∧ i = .int .i64 j ∧ s = .string (bs (40 :: (S.take j).flatten))) (fun _ i => S.length - (intOf i).toNat)
        case atStart => exact ⟨0, Nat.zero_le _, rfl, rfl⟩
        case round =>
          obtain ⟨j, hj, rfl, rfl⟩ := hrel
          have htl := taken_le HSM.out HSL.out j
          by_cases hlj : j < S.length
          · obtain ⟨g, c', e9, hg, _, _⟩ := HO.out.pos (by omega)
            cases e9
            have hx := List.getElem?_eq_getElem hlj
            have hc := HO.out.cell hx
            have HN := hid (show (40 :: (S.take (j + 1)).flatten : Txt) = 40 :: (S.take j).flatten ++ S[j] by rw [take_flat hx]; rfl)
            have hq := str_add (40 :: (S.take j).flatten) S[j] (by have := HSM.out _ (List.getElem_mem hlj); rw [List.length_cons]; omega)
            clear htl hx
            generalize S[j] = Y at *
            generalize (40 :: (S.take j).flatten : Txt) = X at *
            go_wp2_with fail
            go_round
            case rel => exact ⟨j + 1, by omega, by go_num, by rw [HN.out]⟩
            case measure => simp [intOf]; omega
          · obtain rfl : j = S.length := by omega
            have hq : Op.stringOp .add (bs (40 :: (S.take S.length).flatten)) ⟨#[41]⟩ = pure (.string (bs ((40 :: (S.take S.length).flatten) ++ [41]))) := str_add (40 :: (S.take S.length).flatten) [41] (by rw [List.length_cons]; simp only [List.length_singleton]; omega)
            have HN := hid (show (40 :: (S.take S.length).flatten) ++ [41] = tree f t by rw [HE.out, List.take_length]; rfl)
            rw [HN.out] at hq
            clear htl
            generalize (40 :: (S.take S.length).flatten : Txt) = X at *
            go_wp2_with fail
            go_ret
            exact ⟨rfl, hb5⟩

theorem sTreeText_c (A : Option Addr) (c : Nat) (f : List Int) (t : Int) (w : World) (hR : RdA w A f) (hn : f.length ≤ 1048577) :
    Calls Try.prog 57 #[.slice A f.length c, .int .i64 t] w fun e w' => e = .returned (.string (bs (treeV f t))) ∧ Below w.heap.size w w' := by
  have c1 := sMapOk_c A c f w hR hn
  by_cases hf : mapOkB f = true
  · rw [hf] at c1
    have h1 := (good_of hf).1
    by_cases ht : 0 ≤ t ∧ t ≤ (f.length : Int) - 1
    · have c2 := l1In_t t 0 ((f.length : Int) - 1) w ht
      obtain ⟨n, rfl⟩ := Int.eq_ofNat_of_zero_le ht.1
      have hlt : n < f.length := by omega
      have HE := hid (show treeV f n = tree f n by rw [treeV, if_pos (th_of (good_of hf) hlt), Int.toNat_natCast])
      have c3 := hid (sTree_in A c f (good_of hf) 7 n w hlt (by omega) hR)
      clear hf ht hR
      go_enter Try.func57, Try.ntmps57
      go_wp2_with fail
      refine c1.mono ?_; rintro e w' ⟨rfl, rfl⟩
      go_wp2_with fail
      refine c2.mono ?_; rintro e w' ⟨rfl, rfl⟩
      go_wp2_with fail
      refine c3.out.mono ?_; rintro e w2 ⟨rfl, b2⟩
      rw [← HE.out]
      go_wp2_with fail
      go_ret
      exact ⟨rfl, b2⟩
    · have c2 := l1In_f t 0 ((f.length : Int) - 1) w ht
      have HE := hid (show treeV f t = [] from if_neg (fun h => ht (by have := (thB_iff.1 h).2; omega)))
      clear hf ht hR
      go_enter Try.func57, Try.ntmps57
      go_wp2_with fail
      refine c1.mono ?_; rintro e w' ⟨rfl, rfl⟩
      go_wp2_with fail
      refine c2.mono ?_; rintro e w' ⟨rfl, rfl⟩
      go_wp2_with fail
      go_ret
      rw [HE.out]
      exact ⟨rfl, Below.refl _ _⟩
  · have HE := hid (show treeV f t = [] from if_neg (fun h => hf (ok_of (thB_iff.1 h).1)))
    rw [show mapOkB f = false by simpa using hf] at c1
    clear hf hR
    go_enter Try.func57, Try.ntmps57
    go_wp2_with fail
    refine c1.mono ?_; rintro e w' ⟨rfl, rfl⟩
    go_wp2_with fail
    go_ret
    rw [HE.out]
    exact ⟨rfl, Below.refl _ _⟩

end Go.Proofs.Ytjipecfoiddkjaa
