/- Contracts of chapter 5: the text of a loop, the program's. -/
import Derived.Test.YtjipecfoiddkjaaX7
import Derived.Deep.RegionWith
namespace Go.Proofs.Ytjipecfoiddkjaa
open Go.RowKit Go.Sort
set_option linter.unusedVariables false

theorem res_none {fn : Func} (h : fn.results = #[]) (tmps : Array Value) (P : Program) (w : World) : (results fn tmps).run P w = .ok (.tuple #[]) w := by
  simp [results, h]
/-- m texts from place o on, in one -/
def seg (ss : List Txt) (o m : Nat) : Txt := ((ss.drop o).take m).flatten
theorem seg_rot {ss : List Txt} {k : Nat} (h : k ≤ ss.length) : seg ss k (ss.length - k) ++ seg ss 0 k = rot ss k := by
  rw [seg, seg, rot, List.drop_zero, List.take_of_length_le (by simp), List.flatten_append]
theorem seg_len {ss : List Txt} {M : Nat} (h : ∀ s ∈ ss, s.length ≤ M) (h7 : ss.length ≤ 7) (o m : Nat) : (seg ss o m).length ≤ 7 * M := by
  refine Nat.le_trans (flat_le (M := M) fun s hs => h s (List.mem_of_mem_drop (List.mem_of_mem_take hs))) (Nat.mul_le_mul_right M (by simp; omega))

theorem joinS_c (B : Nat) (w : World) (g n c : Nat) (ss : List Txt) (hown : OwnS B w (.slice (some ⟨g, 0, none⟩) n c) ss) (hg : g < w.heap.size) (o m c' : Nat) (h1 : o + m ≤ ss.length) (hc : m ≤ c') (h7 : ss.length ≤ 7) (hM : ∀ s ∈ ss, s.length ≤ 268435456) :
    Calls Try.prog 35 #[.slice (some ⟨g, o, none⟩) m c', .string (bs [])] w fun e w' => e = .returned (.string (bs (seg ss o m))) ∧ Below w.heap.size w w' := by
  have hl : ((ss.drop o).take m).length = m := by simp; omega
  have hm : (((ss.drop o).take m).map bs).map (·.data.toList) = (ss.drop o).take m := by
    rw [List.map_map]; conv => rhs; rw [← List.map_id ((ss.drop o).take m)]
    exact List.map_congr_left fun x _ => bs_list x
  have := Try.strings_Join g o c' (((ss.drop o).take m).map bs) (bs []) w (fun j x hj => by
    rw [List.getElem?_map] at hj
    cases hx : ((ss.drop o).take m)[j]? with
    | none => rw [hx] at hj; simp at hj
    | some y =>
      rw [hx] at hj
      simp at hj
      subst hj
      have hjm : j < m := by have := (List.getElem?_eq_some_iff.1 hx).1; omega
      rw [List.getElem?_take_of_lt hjm, List.getElem?_drop] at hx
      exact hown.cell hx) hg (by rw [List.length_map, hl]; omega) (by rw [List.length_map, hl]; exact hc) (by rw [hm, bs_list, join_empty]; exact Nat.le_trans (seg_len hM h7 o m) (by omega))
  rw [hm, bs_list, List.length_map, hl, join_empty] at this
  exact this

theorem keep_t (g : Nat) (x y : Txt) (w : World) (hc : w.cell? ⟨g, 0, none⟩ = some (.string (bs y))) (hf : w.frozen? ⟨g, 0, none⟩ = false) (hl : x < y) :
    Calls Try.prog 48 #[.string (bs x), .pointer (some ⟨g, 0, none⟩)] w fun e w' => e = .returned (.tuple #[]) ∧ w' = w.setCell ⟨g, 0, none⟩ (.string (bs x)) := by
  have hls := less_t hl
  clear hl
  go_enter Try.func48, Try.ntmps48
  go_wp2_with fail
  refine bodyPost_end (res_none rfl _ _ _) rfl ?_
  exact ⟨rfl, rfl⟩
theorem keep_f (g : Nat) (x y : Txt) (w : World) (hc : w.cell? ⟨g, 0, none⟩ = some (.string (bs y))) (hl : ¬ x < y) :
    Calls Try.prog 48 #[.string (bs x), .pointer (some ⟨g, 0, none⟩)] w fun e w' => e = .returned (.tuple #[]) ∧ w' = w := by
  have hls := less_f hl
  clear hl
  go_enter Try.func48, Try.ntmps48
  go_wp2_with fail
  refine bodyPost_end (res_none rfl _ _ _) rfl ?_
  exact ⟨rfl, rfl⟩

set_option maxHeartbeats 4000000 in
theorem iLoopText_c (A : Option Addr) (c : Nat) (f : List Int) (t : Int) (w : World) (hR : RdA w A f) (hn : f.length ≤ 1048577) :
    Calls Try.prog 34 #[.slice A f.length c, .int .i64 t] w fun e w' => e = .returned (.string (bs (loopTV f t))) ∧ Below w.heap.size w w' := by
  have c1 := thingOk_c A c f t w hR hn
  by_cases ht : thB f t = true
  · obtain ⟨n, rfl, hlt, hf⟩ := th_nat ht
    obtain ⟨r1, r2⟩ := ring_pos hf hlt
    have h7 := hf.1.2
    rw [ht] at c1
    have HE := hid (show loopTV f n = loopT f n by rw [loopTV, if_pos ht, Int.toNat_natCast])
    have c2 := hid (iLoopOf_c A c f n w hR hn)
    rw [lotV_yes ht] at c2
    have C3 := hid (fun W (hb : Below w.heap.size w W) => iWayFrom_c A c f (loopOf f n : Nat) W (hR.below hb) hn)
    rw [wayL_yes (th_of hf (loopOf_lt hf hlt))] at C3
    have C4 := hid (fun m W (hm : m < f.length) (hb : Below w.heap.size w W) => iTree_in A c f hf 7 m W hm (by omega) (hR.below hb))
    have HT := hid (fun j (hj : j < (ringT f n).length) => ring_at hf hlt hj)
    have HM := hid (ring_len7 h7 n)
    rw [loopT] at HE
    have HLE := hid (ring_eqlen f n)
    have HL7 := hid (show (ringT f n).length ≤ 7 by omega)
    have HL1 := hid r1
    clear hf hR ht r1 r2
    generalize loopOf f n = lo at *
    generalize ringT f n = ss at *
    have hmf : ∀ (fn : Fn) (first cap : Array Value) (w : World), (Instr.makeFunc fn first cap).run Try.prog w = .ok (.func fn first cap) w := fun _ _ _ _ => rfl
    go_enter Try.func34, Try.ntmps34
    go_wp2_with fail
    refine c1.mono ?_; rintro e w1 ⟨rfl, rfl⟩
    clear c1
    go_wp2_with fail
    refine c2.out.mono ?_; rintro e w2 ⟨rfl, b2⟩
    go_wp2_with fail
    refine (C3.out w2 b2).mono ?_; rintro e w3 ⟨D, d, rfl, o3, b3⟩
    have b3' := b2.trans (b3.mono b2.size)
    clear c2 C3 b2 b3
    generalize ints (way f lo) = L at *
    have hLL : L.length ≤ 7 := by rw [HLE.out]; exact HL7.out
    have hL1 : 1 ≤ L.length := by rw [HLE.out]; exact HL1.out
    have HR3 := hid o3.rd
    clear o3
    go_wp2_with fail
    go_loopw [5, 21] (fun v i wr => ∃ k : Nat, k ≤ L.length ∧ i = .int .i64 k ∧ OwnS w3.heap.size wr v (ss.take k) ∧ Below w3.heap.size w3 wr) (fun _ i _ => L.length - (intOf i).toNat)
    case atStart => exact ⟨0, Nat.zero_le _, rfl, OwnS.nil _ _, Below.refl _ _⟩
    case round =>
      obtain ⟨k, hk, rfl, ho, hb3⟩ := hrel
      have hb := b3'.trans (hb3.mono b3'.size)
      by_cases hlk : k < L.length
      · obtain ⟨u, hu, hnu, hsu⟩ := HT.out k (by rw [← HLE.out]; exact hlk)
        obtain ⟨ad, rfl, hc⟩ := (HR3.out.below hb3) k hlk
        rw [hnu] at hc
        have HN := hid (show ss.take (k + 1) = ss.take k ++ [tree f u] by rw [List.take_add_one, hsu]; rfl)
        have K4 := hid (C4.out u wr hu hb)
        have HK := hid (show (ss.take k).length ≤ 7 by rw [List.length_take]; have := HL7.out; omega)
        clear hsu hnu
        generalize tree f u = Y at *
        generalize ss.take k = M at *
        go_wp2_with fail
        refine K4.out.mono ?_; rintro e w5 ⟨rfl, b5⟩
        have hb5 := hb3.trans (b5.mono hb3.size)
        have ho5 := ho.below b5
        have hsz := hb5.size
        clear ho hb hb3 K4
        go_wp2_with (at_builtin; refine wpList_appT _ rfl _ _ rfl w3.heap.size _ M rfl (ho5.alloc _) w5.heap.size Y rfl (cell_one1 _ _ _) (by have := HK.out; omega) (by simp <;> omega) ?_; intro A4 c4 w4 o4 b4)
        have b4' : Below w3.heap.size w3 w4 := (hb5.alloc hsz _).trans b4
        clear b4
        go_wp2_with fail
        go_roundw
        case rel => exact ⟨k + 1, by omega, by go_num, by rw [HN.out]; exact o4, b4'⟩
        case measure => simp [intOf]; omega
      · obtain rfl : k = L.length := by omega
        clear C4 HT
        rw [HLE.out, List.take_length] at ho
        obtain ⟨g, c5, rfl, hg3, hg, hcap⟩ := ho.pos (by have := HL1.out; omega)
        have K5 := hid (join_c w3.heap.size wr _ ss [] ho (by have := HL7.out; omega) (by rw [join_empty]; exact Nat.le_trans (flat_le HM.out) (Nat.le_trans (Nat.mul_le_mul_right _ HL7.out) (by omega))))
        rw [join_empty] at K5
        rw [HLE.out] at hLL hL1 ⊢
        have HF := hid (show bestT ss 0 = ss.flatten from rfl)
        rw [← HF.out] at K5
        clear HF HR3 hb3
        go_wp2_with fail
        refine K5.out.mono ?_; rintro e w6 ⟨rfl, b6⟩
        have ho6 := ho.below b6
        have hb6 := hb.trans (b6.mono hb.size)
        have hgz := b6.size
        have hG := hb6.size
        clear ho hb K5 b6
        go_wp2_with fail
        have cG : (w6.alloc (.cells #[.string (bs (bestT ss 0))] 9)).cell? ⟨w6.heap.size, 0, none⟩ = some (.string (bs (bestT ss 0))) := cell_one1 _ _ _
        have fG : (w6.alloc (.cells #[.string (bs (bestT ss 0))] 9)).frozen? ⟨w6.heap.size, 0, none⟩ = false := frozen_of_row _ _ 0 _ _ (heap_alloc_new w6 _)
        have oG := ho6.alloc (.cells #[.string (bs (bestT ss 0))] 9)
        have bG : Below w.heap.size w (w6.alloc (.cells #[.string (bs (bestT ss 0))] 9)) := hb6.alloc hG _
        clear ho6
        go_loopw [37] (fun i wr => ∃ k : Nat, k ≤ ss.length ∧ i = .int .i64 k ∧ wr.cell? ⟨w6.heap.size, 0, none⟩ = some (.string (bs (bestT ss k))) ∧ wr.frozen? ⟨w6.heap.size, 0, none⟩ = false ∧ OwnS w3.heap.size wr (.slice (some ⟨g, 0, none⟩) ss.length c5) ss ∧ Below w.heap.size w wr) (fun i _ => ss.length - (intOf i).toNat)
        case atStart => exact ⟨0, Nat.zero_le _, rfl, cG, fG, oG, bG⟩
        case round =>
          clear cG fG oG bG hb6
          obtain ⟨k, hk, rfl, hc, hf, ho, hb⟩ := hrel
          by_cases hlk : k < ss.length
          · have hgr : g < wr.heap.size := by have := ho.lt g rfl; exact this.2
            have hgw : w6.heap.size < wr.heap.size := lt_of_cell hc
            have J := hid (fun (o m c' : Nat) W (hW : Below wr.heap.size wr W) (h1 : o + m ≤ ss.length) (h2 : m ≤ c') => joinS_c w3.heap.size W g ss.length c5 ss (ho.below hW) (by have := hW.size; omega) o m c' h1 h2 HL7.out HM.out)
            have hq : Op.stringOp .add (bs (seg ss k (ss.length - k))) (bs (seg ss 0 k)) = pure (.string (bs (rot ss k))) := by
              rw [← seg_rot (Nat.le_of_lt hlk)]
              exact str_add _ _ (by have := seg_len HM.out HL7.out k (ss.length - k); have := seg_len HM.out HL7.out 0 k; omega)
            have KP : Hid (∀ W, Below wr.heap.size wr W → Calls Try.prog 48 #[.string (bs (rot ss k)), .pointer (some ⟨w6.heap.size, 0, none⟩)] W fun e w' => e = .returned (.tuple #[]) ∧ w'.cell? ⟨w6.heap.size, 0, none⟩ = some (.string (bs (bestT ss (k + 1)))) ∧ w'.frozen? ⟨w6.heap.size, 0, none⟩ = false ∧ OwnS w3.heap.size w' (.slice (some ⟨g, 0, none⟩) ss.length c5) ss ∧ Below w.heap.size w w') := hid fun W hW => by
              have hcW := (hW.cell (p := ⟨w6.heap.size, 0, none⟩) hgw).trans hc
              have hfW := (hW.frozen (p := ⟨w6.heap.size, 0, none⟩) hgw).trans hf
              have hoW := ho.below hW
              have hbW := hb.trans (hW.mono hb.size)
              by_cases hl : rot ss k < bestT ss k
              · refine (keep_t _ _ _ W hcW hfW hl).mono ?_
                rintro e w' ⟨rfl, rfl⟩
                rw [bestT_yes hl]
                refine ⟨rfl, World.cell?_setCell_same _ _ _ hcW, by simp; exact hfW, hoW.kept (grown_store (World.grownBy.refl _ _) 0 _) (.inr (by simp [Value.ownBlock]; omega)), hbW.setCell (p := ⟨w6.heap.size, 0, none⟩) hG _⟩
              · refine (keep_f _ _ _ W hcW hl).mono ?_
                rintro e w' ⟨rfl, rfl⟩
                rw [bestT_no hl]
                exact ⟨rfl, hcW, hfW, hoW, hbW⟩
            have hd : Below wr.heap.size wr wr.drew := (Below.refl _ _).drew
            have hck : ¬ c5 = k := by omega
            clear hc hf ho
            generalize rot ss k = X at *
            go_wp2_with fail
            go_region_with (first | (go_at_call 35; refine (J.out _ _ _ _ (by assumption) (by omega) (by omega)).mono ?_; rintro e w8 ⟨rfl, b8⟩; have hd8 := Below.trans (by assumption) (b8.mono (Below.size (by assumption)))) | (go_at_call 48; refine (KP.out _ (by assumption)).mono ?_; rintro e w9 ⟨rfl, k1, k2, k3, k4⟩))
            all_goals go_wp2_with fail
            all_goals exact ⟨⟨k + 1, by omega, by go_num, k1, k2, k3, k4⟩, by simp [intOf]; omega⟩
          · obtain rfl : k = ss.length := by omega
            rw [← HE.out] at hc
            go_wp2_with fail
            go_ret
            exact ⟨rfl, hb⟩
  · have HE := hid (show loopTV f t = [] from if_neg ht)
    rw [th_no ht] at c1
    clear ht hR
    go_enter Try.func34, Try.ntmps34
    go_wp2_with fail
    refine c1.mono ?_; rintro e w' ⟨rfl, rfl⟩
    go_wp2_with fail
    go_ret
    rw [HE.out]
    exact ⟨rfl, Below.refl _ _⟩

end Go.Proofs.Ytjipecfoiddkjaa
