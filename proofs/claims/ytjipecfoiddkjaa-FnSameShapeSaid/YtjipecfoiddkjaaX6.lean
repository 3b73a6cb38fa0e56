/- Contracts of chapter 5, the program's: the text of a tree. -/
import Derived.Test.YtjipecfoiddkjaaX5
namespace Go.Proofs.Ytjipecfoiddkjaa
open Go.RowKit Go.Shelf
set_option linter.unusedVariables false
attribute [local go_sem] Oper.semAt_some

set_option maxRecDepth 100000 in
set_option maxHeartbeats 4000000 in
theorem iTree_in (A : Option Addr) (c : Nat) (f : List Int) (hf : Good f) (d : Nat) : ∀ (t : Nat) (w : World), t < f.length → 7 ≤ tail f t + d → RdA w A f →
    Calls Try.prog 47 #[.slice A f.length c, .int .i64 t] w fun e w' => e = .returned (.string (bs (tree f t))) ∧ Below w.heap.size w w' := by
  have h7 := hf.1.2
  induction d with
  | zero =>
    intro t w ht hd
    have := tail_le hf ht
    omega
  | succ d ih =>
    intro t w ht hd hR
    have HF := hid hf
    have HE := hid (tree_eq hf ht)
    have HPL := hid (fun k => parts_le h7 t k)
    have HTL := hid (tail_le hf ht)
    have IH := hid ih
    obtain ⟨ad, rfl, hcell⟩ := hR.some_ (show 0 < f.length by omega)
    have hadl : ad.block < w.heap.size := by have := lt_of_cell (hcell 0 (by omega)); rwa [block_of_add] at this
    have HR := hid hR
    have HC := hid hcell
    have H7 := hid h7
    clear ih hR hcell
    have h1 : 1 ≤ 10 := by omega
    have k1 := fun W (hb : Below w.heap.size w W) => thingOk_c (some ad) c f t W (HR.out.below hb) (by omega)
    rw [th_of HF.out ht] at k1
    have K1 := hid k1
    clear k1 h7
    refine (callsIn_wide (n := 10)).1 ?_
    refine callsIn_of_wp_marks Try.func47 rfl trivial ?_ rfl
    simp only [Try.ntmps47, List.size_toArray, List.length_cons, List.length_nil, Nat.reduceAdd, Nat.reduceSub, Array.replicate_succ, Array.replicate_zero, List.push_toArray, List.append_toArray, List.nil_append, List.cons_append]
    gi_wp2_with (refine ⟨trivial, ?_⟩; gi_at_call 30; refine (callsIn_wide.2 (K1.out _ ((Below.refl _ w).alloc (Nat.le_refl _) _))).mono ?_; rintro e w' ⟨rfl, rfl⟩)
    gi_wp2_with (refine ⟨trivial, ?_⟩; gi_at_call 62; refine (callsIn_wide.2 (from_c _ _ _ _ _)).mono ?_; rintro e w' ⟨rfl, rfl⟩)
    have bA : Boxed ((((w.alloc (.cells #[.slice (some ad) f.length c] 23)).alloc (.cells #[.slice none 0 0] 47)).alloc (.cells #[.slice (some ad) f.length c] 51)).alloc (.cells #[.int .i64 (t : Int)] 3)) w.heap.size 23 (.slice (some ad) f.length c) := (((Boxed.new w 23 (.slice (some ad) f.length c)).alloc _).alloc _).alloc _
    have bB : Boxed ((((w.alloc (.cells #[.slice (some ad) f.length c] 23)).alloc (.cells #[.slice none 0 0] 47)).alloc (.cells #[.slice (some ad) f.length c] 51)).alloc (.cells #[.int .i64 (t : Int)] 3)) (w.heap.size + 1) 47 (.slice none 0 0) := by
      have := ((Boxed.new (w.alloc (.cells #[.slice (some ad) f.length c] 23)) 47 (.slice none 0 0)).alloc (.cells #[.slice (some ad) f.length c] 51)).alloc (.cells #[.int .i64 (t : Int)] 3)
      simpa using this
    have bC : Boxed ((((w.alloc (.cells #[.slice (some ad) f.length c] 23)).alloc (.cells #[.slice none 0 0] 47)).alloc (.cells #[.slice (some ad) f.length c] 51)).alloc (.cells #[.int .i64 (t : Int)] 3)) (w.heap.size + 1 + 1) 51 (.slice (some ad) f.length c) := by
      have := (Boxed.new ((w.alloc (.cells #[.slice (some ad) f.length c] 23)).alloc (.cells #[.slice none 0 0] 47)) 51 (.slice (some ad) f.length c)).alloc (.cells #[.int .i64 (t : Int)] 3)
      simpa using this
    have bD : Boxed ((((w.alloc (.cells #[.slice (some ad) f.length c] 23)).alloc (.cells #[.slice none 0 0] 47)).alloc (.cells #[.slice (some ad) f.length c] 51)).alloc (.cells #[.int .i64 (t : Int)] 3)) (w.heap.size + 1 + 1 + 1) 3 (.int .i64 (t : Int)) := by
      have := Boxed.new (((w.alloc (.cells #[.slice (some ad) f.length c] 23)).alloc (.cells #[.slice none 0 0] 47)).alloc (.cells #[.slice (some ad) f.length c] 51)) 3 (.int .i64 (t : Int))
      simpa using this
    have hb0 : Below w.heap.size w ((((w.alloc (.cells #[.slice (some ad) f.length c] 23)).alloc (.cells #[.slice none 0 0] 47)).alloc (.cells #[.slice (some ad) f.length c] 51)).alloc (.cells #[.int .i64 (t : Int)] 3)) := ((((Below.refl _ w).alloc (Nat.le_refl _) _).alloc (by simp) _).alloc (by simp; omega) _).alloc (by simp; omega) _
    obtain ⟨W0, hW0⟩ : ∃ W0, ((((w.alloc (.cells #[.slice (some ad) f.length c] 23)).alloc (.cells #[.slice none 0 0] 47)).alloc (.cells #[.slice (some ad) f.length c] 51)).alloc (.cells #[.int .i64 (t : Int)] 3)) = W0 := ⟨_, rfl⟩
    have hsz : W0.heap.size = w.heap.size + 4 := by rw [← hW0]; simp
    rw [hW0] at bA bB bC bD hb0 ⊢
    clear hW0
    have hc0 : ∀ k, k < f.length → W0.cell? (ad.add k) = some (.int .i64 (nth f k)) := fun k hk => (hb0.cell (p := ad.add k) (by rw [block_of_add]; exact hadl)).trans (HC.out k hk)
    refine wpIn_rangeFunc_ownG rfl h1 (gf := 69) (lb := #[.pointer (some ⟨w.heap.size + 1 + 1, 0, none⟩), .pointer (some ⟨w.heap.size + 1 + 1 + 1, 0, none⟩)]) rfl trivial (enters_of Try.func69 (by kernel_rfl) rfl)
      (from_k 9 (by omega) (w.heap.size + 1 + 1) (w.heap.size + 1 + 1 + 1) c ad f t H7.out (KB w.heap.size (w.heap.size + 1) W0.heap.size) (KB.refl _ _ _) KB.trans
        (fun X Y p h hp => h.cell (by omega) (by omega)) W0 (by omega) (by omega) (by omega) bC.cell bD.cell hc0)
      KB.trans (KB.putObj (by omega) (Nat.le_refl _)) (Below.refl _ _) (fun _ => rfl)
      (fun pre W => (∃ v, Boxed W (w.heap.size + 1) 47 v ∧ W.ownsRow W0.heap.size 9 1 v (partsT pre).length ((partsT pre).map encStr) ∧ True) ∧ KB w.heap.size (w.heap.size + 1) W0.heap.size W0 W)
      (fun _ _ _ => False)
      (OwnFrom.and (Own.from (holdsRow_own W0.heap.size (w.heap.size + 1) 47 9 1 (fun pre => (partsT pre).length) (fun pre => (partsT pre).map encStr) (fun pre v => True)) _) (ownFrom_KB (by omega)))
      (fun _ _ _ _ _ hs _ _ => hs)
      ⟨⟨_, bB, World.ownsRow_nil _ _ _ _, trivial⟩, KB.refl _ _ _ _⟩
      (fun x => { tmps := #[.slice (some ad) f.length c, .int .i64 t, .pointer (some ⟨w.heap.size, 0, none⟩), undef, .string ⟨#[]⟩, .pointer (some ⟨w.heap.size + 1, 0, none⟩), .int .i64 (x.1 : Nat), .slice (some ad) f.length c, .int .i64 t, .bool true, .bool false, .slice (some ad) f.length c, .int .i64 t,
        .func (.func 69) #[] #[.pointer (some ⟨w.heap.size + 1 + 1, 0, none⟩), .pointer (some ⟨w.heap.size + 1 + 1 + 1, 0, none⟩)], .int .i64 (x.1 : Nat), undef, undef, undef, undef, undef, undef, undef, undef, undef, undef, undef, undef, undef, undef, undef], defers := [] }) ?assign ?body ?done ?stop
    case assign =>
      intro l x W K hK
      gi_wp2
      exact hK
    case body =>
      rintro l pre x W ⟨⟨v, hv, hrow, _⟩, hB⟩ hlt
      have HX0 := hid x.2
      have hW : W0.heap.size ≤ W.heap.size := hB.1.size
      have HL := hid (show (partsT pre).length ≤ 1000 by have := partsT_len pre; have := H7.out; omega)
      have hBb : Below w.heap.size w W := hb0.trans hB.1
      have cA : W.cell? ⟨w.heap.size, 0, none⟩ = some (.slice (some ad) f.length c) := (hB.cell (p := ⟨w.heap.size, 0, none⟩) (by show w.heap.size < _; omega) (by show w.heap.size ≠ _; omega)).trans bA.cell
      have k1 := iOnLoop_c (some ad) c f (x.1 : Nat) W (HR.out.below hBb) (by have := H7.out; omega)
      rw [tailV_yes (th_of HF.out HX0.out.1)] at k1
      by_cases h0 : tail f x.1 = 0
      · have HN := hid (partsT_no (pre := pre) h0)
        rw [h0] at k1
        have k1 := hid k1
        clear h0
        gi_wp2_with (refine ⟨trivial, ?_⟩; gi_at_call 63; refine (CallsIn.inRound l (callsIn_wide.2 k1.out)).mono ?_; rintro e w2 ⟨rfl, b2⟩)
        exact ⟨KeepsFrom.of_grownBy (grown_of_below b2 none) (fun j e => by cases e), KB.of_below (by omega) (b2.mono hW), ⟨v, hv.kept (grown_of_below b2 none) (by simp), by rw [HN.out]; exact OwnS.below hrow b2, trivial⟩, hB.trans (KB.of_below (by omega) (b2.mono hW))⟩
      · have HN := hid (partsT_yes (pre := pre) h0)
        have q2 : ((tail f x.1 : Int) == 0) = false := by simp; omega
        have hct := hid (child_tail HF.out (mem_childs.2 ⟨HX0.out.1, HX0.out.2, h0⟩)).1
        have hrow : OwnS W0.heap.size W v (partsT pre) := hrow
        have HX := hid (show ∀ (w5 : World) (v5 : Value), KeepsFrom W0.heap.size W w5 → KB w.heap.size (w.heap.size + 1) W0.heap.size W w5 → Boxed w5 (w.heap.size + 1) 47 v5 → OwnS W0.heap.size w5 v5 (partsT pre ++ [tree f x.1]) →
          KeepsFrom W0.heap.size W w5 ∧ KB w.heap.size (w.heap.size + 1) W0.heap.size W w5 ∧ (∃ v, Boxed w5 (w.heap.size + 1) 47 v ∧ w5.ownsRow W0.heap.size 9 1 v (partsT (pre ++ [x])).length ((partsT (pre ++ [x])).map encStr) ∧ True) ∧ KB w.heap.size (w.heap.size + 1) W0.heap.size W0 w5 from
          fun w5 v5 e1 e2 e3 e4 => ⟨e1, e2, ⟨v5, e3, by rw [HN.out]; exact e4, trivial⟩, hB.trans e2⟩)
        have k1 := hid k1
        have IH2 := hid (fun W2 (hb : Below w.heap.size w W2) => IH.out x.1 W2 HX0.out.1 (by have := hct.out; omega) (HR.out.below hb))
        clear h0 IH
        generalize tree f x.1 = Y at *
        generalize tail f x.1 = U at *
        generalize hM : partsT pre = M at *
        clear hM
        gi_wp2_with (refine ⟨trivial, ?_⟩; gi_at_call 63; refine (CallsIn.inRound l (callsIn_wide.2 k1.out)).mono ?_; rintro e w2 ⟨rfl, b2⟩)
        have hv2 : Boxed w2 (w.heap.size + 1) 47 v := hv.kept (grown_of_below b2 none) (by simp)
        have cB2 := hv2.cell
        have cA2 : w2.cell? ⟨w.heap.size, 0, none⟩ = some (.slice (some ad) f.length c) := (b2.cell (p := ⟨w.heap.size, 0, none⟩) (by show w.heap.size < _; omega)).trans cA
        have b2d : Below W.heap.size W w2.drew := b2.drew
        have K2 := hid (IH2.out w2.drew (hBb.trans (b2d.mono hBb.size)))
        have b3d := hid (show ∀ w3, Below w2.drew.heap.size w2.drew w3 → Below W.heap.size w2 w3 from fun w3 b3 => (((Below.refl _ w2).drew).trans (b3.mono b2d.size)))
        have HS := hid (show ∀ w3, Below w2.drew.heap.size w2.drew w3 → Boxed w3 (w.heap.size + 1) 47 v ∧ w3.cell? ⟨w.heap.size + 1, 0, none⟩ = some v ∧ Below W.heap.size W w3 ∧ OwnS W0.heap.size w3 v M from fun w3 b3 =>
          have bb := b2.trans (b3d.out w3 b3)
          have h3 : Boxed w3 (w.heap.size + 1) 47 v := hv.kept (grown_of_below bb none) (by simp)
          ⟨h3, h3.cell, bb, hrow.below bb⟩)
        clear IH2 k1
        refine wpIn_region_any (by kernel_rfl) ?_
        change wpAnyIn _ _ _ _ _ _ _ _ _ (World.drew _)
        refine wpAnyIn_ready (rs := [0, 1, 2]) (by kernel_rfl) (by simp) ?_
        refine AllReadyIn.cons rfl (fun K hK => ?_) ?_
        · go_simp
          refine hK _ _ ?_; clear hK K
          refine wpAnyIn_ready (rs := [1, 2]) (by kernel_rfl) (by simp) ?_
          refine AllReadyIn.cons rfl (fun K hK => ?_) ?_
          · go_simp
            refine hK _ _ ?_; clear hK K
            refine wpAnyIn_ready (rs := [2]) (by kernel_rfl) (by simp) ?_
            refine AllReadyIn.cons rfl (fun K hK => ?_) ?_
            · go_simp
              refine hK _ _ ?_; clear hK K
              refine wpAnyIn_ready (rs := [3]) (by kernel_rfl) (by simp) ?_
              refine AllReadyIn.cons rfl (fun K hK => ?_) ?_
              · go_simp
                gi_wp2_with (refine ⟨trivial, ?_⟩; gi_at_call 47; refine (CallsIn.inRound l (callsIn_wide.2 K2.out)).mono ?_; rintro e w3 ⟨rfl, b3⟩)
                try (refine hK _ _ ?_; clear hK K)
                obtain ⟨hv3, hvc3, hB3, hr3⟩ := HS.out w3 b3
                have hva3 : ∀ o, (w3.alloc o).cell? ⟨w.heap.size + 1, 0, none⟩ = some v := fun o => (hv3.alloc o).cell
                refine wpAnyIn_ready (rs := [4]) (by kernel_rfl) (by simp) ?_
                refine AllReadyIn.cons rfl (fun K hK => ?_) ?_
                · go_simp
                  refine hK _ _ ?_; clear hK K
                  refine wpAnyIn_ready (rs := [5]) (by kernel_rfl) (by simp) ?_
                  refine AllReadyIn.cons rfl (fun K hK => ?_) ?_
                  · refine step_appendT rfl _ _ rfl W0.heap.size v M (by rfl) (hr3.alloc _) w3.heap.size Y (by rfl) (cell_one1 _ _ _) (by have := HL.out; omega) (by have := hB3.size; simp; omega) ?_
                    intro A4 c4 w4 o4 g4
                    refine hK _ _ ?_; clear hK K
                    obtain ⟨hv4, e1, e2, e3, e4⟩ := parts_step (B0 := w.heap.size) (B := w.heap.size + 1) (b2.trans (b3d.out w3 b3)) (by omega) hW (by omega) hv hrow o4 g4
                    have hc4 := hv4.cell
                    have hf4 := hv4.frozen
                    refine wpAnyIn_ready (rs := [6]) (by kernel_rfl) (by simp) ?_
                    refine AllReadyIn.cons rfl (fun K hK => ?_) ?_
                    · go_simp
                      refine hK _ _ ?_; clear hK K
                      refine wpAnyIn_done (by kernel_rfl) ?_ _
                      gi_wp2
                      exact HX.out _ _ e1 e2 e3 e4
                    exact AllReadyIn.nil
                  exact AllReadyIn.nil
                exact AllReadyIn.nil
              exact AllReadyIn.nil
            exact AllReadyIn.nil
          refine AllReadyIn.cons rfl (fun K hK => ?_) ?_
          · go_simp
            refine hK _ _ ?_; clear hK K
            refine wpAnyIn_ready (rs := [1]) (by kernel_rfl) (by simp) ?_
            refine AllReadyIn.cons rfl (fun K hK => ?_) ?_
            · go_simp
              refine hK _ _ ?_; clear hK K
              refine wpAnyIn_ready (rs := [3]) (by kernel_rfl) (by simp) ?_
              refine AllReadyIn.cons rfl (fun K hK => ?_) ?_
              · go_simp
                gi_wp2_with (refine ⟨trivial, ?_⟩; gi_at_call 47; refine (CallsIn.inRound l (callsIn_wide.2 K2.out)).mono ?_; rintro e w3 ⟨rfl, b3⟩)
                try (refine hK _ _ ?_; clear hK K)
                obtain ⟨hv3, hvc3, hB3, hr3⟩ := HS.out w3 b3
                have hva3 : ∀ o, (w3.alloc o).cell? ⟨w.heap.size + 1, 0, none⟩ = some v := fun o => (hv3.alloc o).cell
                refine wpAnyIn_ready (rs := [4]) (by kernel_rfl) (by simp) ?_
                refine AllReadyIn.cons rfl (fun K hK => ?_) ?_
                · go_simp
                  refine hK _ _ ?_; clear hK K
                  refine wpAnyIn_ready (rs := [5]) (by kernel_rfl) (by simp) ?_
                  refine AllReadyIn.cons rfl (fun K hK => ?_) ?_
                  · refine step_appendT rfl _ _ rfl W0.heap.size v M (by rfl) (hr3.alloc _) w3.heap.size Y (by rfl) (cell_one1 _ _ _) (by have := HL.out; omega) (by have := hB3.size; simp; omega) ?_
                    intro A4 c4 w4 o4 g4
                    refine hK _ _ ?_; clear hK K
                    obtain ⟨hv4, e1, e2, e3, e4⟩ := parts_step (B0 := w.heap.size) (B := w.heap.size + 1) (b2.trans (b3d.out w3 b3)) (by omega) hW (by omega) hv hrow o4 g4
                    have hc4 := hv4.cell
                    have hf4 := hv4.frozen
                    refine wpAnyIn_ready (rs := [6]) (by kernel_rfl) (by simp) ?_
                    refine AllReadyIn.cons rfl (fun K hK => ?_) ?_
                    · go_simp
                      refine hK _ _ ?_; clear hK K
                      refine wpAnyIn_done (by kernel_rfl) ?_ _
                      gi_wp2
                      exact HX.out _ _ e1 e2 e3 e4
                    exact AllReadyIn.nil
                  exact AllReadyIn.nil
                exact AllReadyIn.nil
              exact AllReadyIn.nil
            exact AllReadyIn.nil
          exact AllReadyIn.nil
        refine AllReadyIn.cons rfl (fun K hK => ?_) ?_
        · go_simp
          refine hK _ _ ?_; clear hK K
          refine wpAnyIn_ready (rs := [0, 2]) (by kernel_rfl) (by simp) ?_
          refine AllReadyIn.cons rfl (fun K hK => ?_) ?_
          · go_simp
            refine hK _ _ ?_; clear hK K
            refine wpAnyIn_ready (rs := [2]) (by kernel_rfl) (by simp) ?_
            refine AllReadyIn.cons rfl (fun K hK => ?_) ?_
            · go_simp
              refine hK _ _ ?_; clear hK K
              refine wpAnyIn_ready (rs := [3]) (by kernel_rfl) (by simp) ?_
              refine AllReadyIn.cons rfl (fun K hK => ?_) ?_
              · go_simp
                gi_wp2_with (refine ⟨trivial, ?_⟩; gi_at_call 47; refine (CallsIn.inRound l (callsIn_wide.2 K2.out)).mono ?_; rintro e w3 ⟨rfl, b3⟩)
                try (refine hK _ _ ?_; clear hK K)
                obtain ⟨hv3, hvc3, hB3, hr3⟩ := HS.out w3 b3
                have hva3 : ∀ o, (w3.alloc o).cell? ⟨w.heap.size + 1, 0, none⟩ = some v := fun o => (hv3.alloc o).cell
                refine wpAnyIn_ready (rs := [4]) (by kernel_rfl) (by simp) ?_
                refine AllReadyIn.cons rfl (fun K hK => ?_) ?_
                · go_simp
                  refine hK _ _ ?_; clear hK K
                  refine wpAnyIn_ready (rs := [5]) (by kernel_rfl) (by simp) ?_
                  refine AllReadyIn.cons rfl (fun K hK => ?_) ?_
                  · refine step_appendT rfl _ _ rfl W0.heap.size v M (by rfl) (hr3.alloc _) w3.heap.size Y (by rfl) (cell_one1 _ _ _) (by have := HL.out; omega) (by have := hB3.size; simp; omega) ?_
                    intro A4 c4 w4 o4 g4
                    refine hK _ _ ?_; clear hK K
                    obtain ⟨hv4, e1, e2, e3, e4⟩ := parts_step (B0 := w.heap.size) (B := w.heap.size + 1) (b2.trans (b3d.out w3 b3)) (by omega) hW (by omega) hv hrow o4 g4
                    have hc4 := hv4.cell
                    have hf4 := hv4.frozen
                    refine wpAnyIn_ready (rs := [6]) (by kernel_rfl) (by simp) ?_
                    refine AllReadyIn.cons rfl (fun K hK => ?_) ?_
                    · go_simp
                      refine hK _ _ ?_; clear hK K
                      refine wpAnyIn_done (by kernel_rfl) ?_ _
                      gi_wp2
                      exact HX.out _ _ e1 e2 e3 e4
                    exact AllReadyIn.nil
                  exact AllReadyIn.nil
                exact AllReadyIn.nil
              exact AllReadyIn.nil
            exact AllReadyIn.nil
          refine AllReadyIn.cons rfl (fun K hK => ?_) ?_
          · go_simp
            refine hK _ _ ?_; clear hK K
            refine wpAnyIn_ready (rs := [0, 3]) (by kernel_rfl) (by simp) ?_
            refine AllReadyIn.cons rfl (fun K hK => ?_) ?_
            · go_simp
              refine hK _ _ ?_; clear hK K
              refine wpAnyIn_ready (rs := [3]) (by kernel_rfl) (by simp) ?_
              refine AllReadyIn.cons rfl (fun K hK => ?_) ?_
              · go_simp
                gi_wp2_with (refine ⟨trivial, ?_⟩; gi_at_call 47; refine (CallsIn.inRound l (callsIn_wide.2 K2.out)).mono ?_; rintro e w3 ⟨rfl, b3⟩)
                try (refine hK _ _ ?_; clear hK K)
                obtain ⟨hv3, hvc3, hB3, hr3⟩ := HS.out w3 b3
                have hva3 : ∀ o, (w3.alloc o).cell? ⟨w.heap.size + 1, 0, none⟩ = some v := fun o => (hv3.alloc o).cell
                refine wpAnyIn_ready (rs := [4]) (by kernel_rfl) (by simp) ?_
                refine AllReadyIn.cons rfl (fun K hK => ?_) ?_
                · go_simp
                  refine hK _ _ ?_; clear hK K
                  refine wpAnyIn_ready (rs := [5]) (by kernel_rfl) (by simp) ?_
                  refine AllReadyIn.cons rfl (fun K hK => ?_) ?_
                  · refine step_appendT rfl _ _ rfl W0.heap.size v M (by rfl) (hr3.alloc _) w3.heap.size Y (by rfl) (cell_one1 _ _ _) (by have := HL.out; omega) (by have := hB3.size; simp; omega) ?_
                    intro A4 c4 w4 o4 g4
                    refine hK _ _ ?_; clear hK K
                    obtain ⟨hv4, e1, e2, e3, e4⟩ := parts_step (B0 := w.heap.size) (B := w.heap.size + 1) (b2.trans (b3d.out w3 b3)) (by omega) hW (by omega) hv hrow o4 g4
                    have hc4 := hv4.cell
                    have hf4 := hv4.frozen
                    refine wpAnyIn_ready (rs := [6]) (by kernel_rfl) (by simp) ?_
                    refine AllReadyIn.cons rfl (fun K hK => ?_) ?_
                    · go_simp
                      refine hK _ _ ?_; clear hK K
                      refine wpAnyIn_done (by kernel_rfl) ?_ _
                      gi_wp2
                      exact HX.out _ _ e1 e2 e3 e4
                    exact AllReadyIn.nil
                  exact AllReadyIn.nil
                exact AllReadyIn.nil
              exact AllReadyIn.nil
            refine AllReadyIn.cons rfl (fun K hK => ?_) ?_
            · go_simp
              gi_wp2_with (refine ⟨trivial, ?_⟩; gi_at_call 47; refine (CallsIn.inRound l (callsIn_wide.2 K2.out)).mono ?_; rintro e w3 ⟨rfl, b3⟩)
              try (refine hK _ _ ?_; clear hK K)
              obtain ⟨hv3, hvc3, hB3, hr3⟩ := HS.out w3 b3
              have hva3 : ∀ o, (w3.alloc o).cell? ⟨w.heap.size + 1, 0, none⟩ = some v := fun o => (hv3.alloc o).cell
              refine wpAnyIn_ready (rs := [0, 4]) (by kernel_rfl) (by simp) ?_
              refine AllReadyIn.cons rfl (fun K hK => ?_) ?_
              · go_simp
                refine hK _ _ ?_; clear hK K
                refine wpAnyIn_ready (rs := [4]) (by kernel_rfl) (by simp) ?_
                refine AllReadyIn.cons rfl (fun K hK => ?_) ?_
                · go_simp
                  refine hK _ _ ?_; clear hK K
                  refine wpAnyIn_ready (rs := [5]) (by kernel_rfl) (by simp) ?_
                  refine AllReadyIn.cons rfl (fun K hK => ?_) ?_
                  · refine step_appendT rfl _ _ rfl W0.heap.size v M (by rfl) (hr3.alloc _) w3.heap.size Y (by rfl) (cell_one1 _ _ _) (by have := HL.out; omega) (by have := hB3.size; simp; omega) ?_
                    intro A4 c4 w4 o4 g4
                    refine hK _ _ ?_; clear hK K
                    obtain ⟨hv4, e1, e2, e3, e4⟩ := parts_step (B0 := w.heap.size) (B := w.heap.size + 1) (b2.trans (b3d.out w3 b3)) (by omega) hW (by omega) hv hrow o4 g4
                    have hc4 := hv4.cell
                    have hf4 := hv4.frozen
                    refine wpAnyIn_ready (rs := [6]) (by kernel_rfl) (by simp) ?_
                    refine AllReadyIn.cons rfl (fun K hK => ?_) ?_
                    · go_simp
                      refine hK _ _ ?_; clear hK K
                      refine wpAnyIn_done (by kernel_rfl) ?_ _
                      gi_wp2
                      exact HX.out _ _ e1 e2 e3 e4
                    exact AllReadyIn.nil
                  exact AllReadyIn.nil
                exact AllReadyIn.nil
              refine AllReadyIn.cons rfl (fun K hK => ?_) ?_
              · go_simp
                refine hK _ _ ?_; clear hK K
                refine wpAnyIn_ready (rs := [0]) (by kernel_rfl) (by simp) ?_
                refine AllReadyIn.cons rfl (fun K hK => ?_) ?_
                · go_simp
                  refine hK _ _ ?_; clear hK K
                  refine wpAnyIn_ready (rs := [5]) (by kernel_rfl) (by simp) ?_
                  refine AllReadyIn.cons rfl (fun K hK => ?_) ?_
                  · refine step_appendT rfl _ _ rfl W0.heap.size v M (by rfl) (hr3.alloc _) w3.heap.size Y (by rfl) (cell_one1 _ _ _) (by have := HL.out; omega) (by have := hB3.size; simp; omega) ?_
                    intro A4 c4 w4 o4 g4
                    refine hK _ _ ?_; clear hK K
                    obtain ⟨hv4, e1, e2, e3, e4⟩ := parts_step (B0 := w.heap.size) (B := w.heap.size + 1) (b2.trans (b3d.out w3 b3)) (by omega) hW (by omega) hv hrow o4 g4
                    have hc4 := hv4.cell
                    have hf4 := hv4.frozen
                    refine wpAnyIn_ready (rs := [6]) (by kernel_rfl) (by simp) ?_
                    refine AllReadyIn.cons rfl (fun K hK => ?_) ?_
                    · go_simp
                      refine hK _ _ ?_; clear hK K
                      refine wpAnyIn_done (by kernel_rfl) ?_ _
                      gi_wp2
                      exact HX.out _ _ e1 e2 e3 e4
                    exact AllReadyIn.nil
                  exact AllReadyIn.nil
                exact AllReadyIn.nil
              exact AllReadyIn.nil
            exact AllReadyIn.nil
          exact AllReadyIn.nil
        refine AllReadyIn.cons rfl (fun K hK => ?_) ?_
        · go_simp
          refine hK _ _ ?_; clear hK K
          refine wpAnyIn_ready (rs := [0, 1]) (by kernel_rfl) (by simp) ?_
          refine AllReadyIn.cons rfl (fun K hK => ?_) ?_
          · go_simp
            refine hK _ _ ?_; clear hK K
            refine wpAnyIn_ready (rs := [1]) (by kernel_rfl) (by simp) ?_
            refine AllReadyIn.cons rfl (fun K hK => ?_) ?_
            · go_simp
              refine hK _ _ ?_; clear hK K
              refine wpAnyIn_ready (rs := [3]) (by kernel_rfl) (by simp) ?_
              refine AllReadyIn.cons rfl (fun K hK => ?_) ?_
              · go_simp
                gi_wp2_with (refine ⟨trivial, ?_⟩; gi_at_call 47; refine (CallsIn.inRound l (callsIn_wide.2 K2.out)).mono ?_; rintro e w3 ⟨rfl, b3⟩)
                try (refine hK _ _ ?_; clear hK K)
                obtain ⟨hv3, hvc3, hB3, hr3⟩ := HS.out w3 b3
                have hva3 : ∀ o, (w3.alloc o).cell? ⟨w.heap.size + 1, 0, none⟩ = some v := fun o => (hv3.alloc o).cell
                refine wpAnyIn_ready (rs := [4]) (by kernel_rfl) (by simp) ?_
                refine AllReadyIn.cons rfl (fun K hK => ?_) ?_
                · go_simp
                  refine hK _ _ ?_; clear hK K
                  refine wpAnyIn_ready (rs := [5]) (by kernel_rfl) (by simp) ?_
                  refine AllReadyIn.cons rfl (fun K hK => ?_) ?_
                  · refine step_appendT rfl _ _ rfl W0.heap.size v M (by rfl) (hr3.alloc _) w3.heap.size Y (by rfl) (cell_one1 _ _ _) (by have := HL.out; omega) (by have := hB3.size; simp; omega) ?_
                    intro A4 c4 w4 o4 g4
                    refine hK _ _ ?_; clear hK K
                    obtain ⟨hv4, e1, e2, e3, e4⟩ := parts_step (B0 := w.heap.size) (B := w.heap.size + 1) (b2.trans (b3d.out w3 b3)) (by omega) hW (by omega) hv hrow o4 g4
                    have hc4 := hv4.cell
                    have hf4 := hv4.frozen
                    refine wpAnyIn_ready (rs := [6]) (by kernel_rfl) (by simp) ?_
                    refine AllReadyIn.cons rfl (fun K hK => ?_) ?_
                    · go_simp
                      refine hK _ _ ?_; clear hK K
                      refine wpAnyIn_done (by kernel_rfl) ?_ _
                      gi_wp2
                      exact HX.out _ _ e1 e2 e3 e4
                    exact AllReadyIn.nil
                  exact AllReadyIn.nil
                exact AllReadyIn.nil
              exact AllReadyIn.nil
            exact AllReadyIn.nil
          refine AllReadyIn.cons rfl (fun K hK => ?_) ?_
          · go_simp
            refine hK _ _ ?_; clear hK K
            refine wpAnyIn_ready (rs := [0, 3]) (by kernel_rfl) (by simp) ?_
            refine AllReadyIn.cons rfl (fun K hK => ?_) ?_
            · go_simp
              refine hK _ _ ?_; clear hK K
              refine wpAnyIn_ready (rs := [3]) (by kernel_rfl) (by simp) ?_
              refine AllReadyIn.cons rfl (fun K hK => ?_) ?_
              · go_simp
                gi_wp2_with (refine ⟨trivial, ?_⟩; gi_at_call 47; refine (CallsIn.inRound l (callsIn_wide.2 K2.out)).mono ?_; rintro e w3 ⟨rfl, b3⟩)
                try (refine hK _ _ ?_; clear hK K)
                obtain ⟨hv3, hvc3, hB3, hr3⟩ := HS.out w3 b3
                have hva3 : ∀ o, (w3.alloc o).cell? ⟨w.heap.size + 1, 0, none⟩ = some v := fun o => (hv3.alloc o).cell
                refine wpAnyIn_ready (rs := [4]) (by kernel_rfl) (by simp) ?_
                refine AllReadyIn.cons rfl (fun K hK => ?_) ?_
                · go_simp
                  refine hK _ _ ?_; clear hK K
                  refine wpAnyIn_ready (rs := [5]) (by kernel_rfl) (by simp) ?_
                  refine AllReadyIn.cons rfl (fun K hK => ?_) ?_
                  · refine step_appendT rfl _ _ rfl W0.heap.size v M (by rfl) (hr3.alloc _) w3.heap.size Y (by rfl) (cell_one1 _ _ _) (by have := HL.out; omega) (by have := hB3.size; simp; omega) ?_
                    intro A4 c4 w4 o4 g4
                    refine hK _ _ ?_; clear hK K
                    obtain ⟨hv4, e1, e2, e3, e4⟩ := parts_step (B0 := w.heap.size) (B := w.heap.size + 1) (b2.trans (b3d.out w3 b3)) (by omega) hW (by omega) hv hrow o4 g4
                    have hc4 := hv4.cell
                    have hf4 := hv4.frozen
                    refine wpAnyIn_ready (rs := [6]) (by kernel_rfl) (by simp) ?_
                    refine AllReadyIn.cons rfl (fun K hK => ?_) ?_
                    · go_simp
                      refine hK _ _ ?_; clear hK K
                      refine wpAnyIn_done (by kernel_rfl) ?_ _
                      gi_wp2
                      exact HX.out _ _ e1 e2 e3 e4
                    exact AllReadyIn.nil
                  exact AllReadyIn.nil
                exact AllReadyIn.nil
              exact AllReadyIn.nil
            refine AllReadyIn.cons rfl (fun K hK => ?_) ?_
            · go_simp
              gi_wp2_with (refine ⟨trivial, ?_⟩; gi_at_call 47; refine (CallsIn.inRound l (callsIn_wide.2 K2.out)).mono ?_; rintro e w3 ⟨rfl, b3⟩)
              try (refine hK _ _ ?_; clear hK K)
              obtain ⟨hv3, hvc3, hB3, hr3⟩ := HS.out w3 b3
              have hva3 : ∀ o, (w3.alloc o).cell? ⟨w.heap.size + 1, 0, none⟩ = some v := fun o => (hv3.alloc o).cell
              refine wpAnyIn_ready (rs := [0, 4]) (by kernel_rfl) (by simp) ?_
              refine AllReadyIn.cons rfl (fun K hK => ?_) ?_
              · go_simp
                refine hK _ _ ?_; clear hK K
                refine wpAnyIn_ready (rs := [4]) (by kernel_rfl) (by simp) ?_
                refine AllReadyIn.cons rfl (fun K hK => ?_) ?_
                · go_simp
                  refine hK _ _ ?_; clear hK K
                  refine wpAnyIn_ready (rs := [5]) (by kernel_rfl) (by simp) ?_
                  refine AllReadyIn.cons rfl (fun K hK => ?_) ?_
                  · refine step_appendT rfl _ _ rfl W0.heap.size v M (by rfl) (hr3.alloc _) w3.heap.size Y (by rfl) (cell_one1 _ _ _) (by have := HL.out; omega) (by have := hB3.size; simp; omega) ?_
                    intro A4 c4 w4 o4 g4
                    refine hK _ _ ?_; clear hK K
                    obtain ⟨hv4, e1, e2, e3, e4⟩ := parts_step (B0 := w.heap.size) (B := w.heap.size + 1) (b2.trans (b3d.out w3 b3)) (by omega) hW (by omega) hv hrow o4 g4
                    have hc4 := hv4.cell
                    have hf4 := hv4.frozen
                    refine wpAnyIn_ready (rs := [6]) (by kernel_rfl) (by simp) ?_
                    refine AllReadyIn.cons rfl (fun K hK => ?_) ?_
                    · go_simp
                      refine hK _ _ ?_; clear hK K
                      refine wpAnyIn_done (by kernel_rfl) ?_ _
                      gi_wp2
                      exact HX.out _ _ e1 e2 e3 e4
                    exact AllReadyIn.nil
                  exact AllReadyIn.nil
                exact AllReadyIn.nil
              refine AllReadyIn.cons rfl (fun K hK => ?_) ?_
              · go_simp
                refine hK _ _ ?_; clear hK K
                refine wpAnyIn_ready (rs := [0]) (by kernel_rfl) (by simp) ?_
                refine AllReadyIn.cons rfl (fun K hK => ?_) ?_
                · go_simp
                  refine hK _ _ ?_; clear hK K
                  refine wpAnyIn_ready (rs := [5]) (by kernel_rfl) (by simp) ?_
                  refine AllReadyIn.cons rfl (fun K hK => ?_) ?_
                  · refine step_appendT rfl _ _ rfl W0.heap.size v M (by rfl) (hr3.alloc _) w3.heap.size Y (by rfl) (cell_one1 _ _ _) (by have := HL.out; omega) (by have := hB3.size; simp; omega) ?_
                    intro A4 c4 w4 o4 g4
                    refine hK _ _ ?_; clear hK K
                    obtain ⟨hv4, e1, e2, e3, e4⟩ := parts_step (B0 := w.heap.size) (B := w.heap.size + 1) (b2.trans (b3d.out w3 b3)) (by omega) hW (by omega) hv hrow o4 g4
                    have hc4 := hv4.cell
                    have hf4 := hv4.frozen
                    refine wpAnyIn_ready (rs := [6]) (by kernel_rfl) (by simp) ?_
                    refine AllReadyIn.cons rfl (fun K hK => ?_) ?_
                    · go_simp
                      refine hK _ _ ?_; clear hK K
                      refine wpAnyIn_done (by kernel_rfl) ?_ _
                      gi_wp2
                      exact HX.out _ _ e1 e2 e3 e4
                    exact AllReadyIn.nil
                  exact AllReadyIn.nil
                exact AllReadyIn.nil
              exact AllReadyIn.nil
            exact AllReadyIn.nil
          exact AllReadyIn.nil
        exact AllReadyIn.nil
    case done =>
      rintro D ys W hD hS ⟨⟨v, hv, hrow, _⟩, hB⟩ hK
      have HML := hid (show ((childs f t f.length).map (tree f)).length ≤ 7 by rw [List.length_map]; have := childs_len f t f.length; have := H7.out; omega)
      have HMM := hid (HPL.out f.length)
      have hrow : OwnS W0.heap.size W v ((childs f t f.length).map (tree f)) := by rw [← partsT_all hS]; exact hrow
      have hBb : Below w.heap.size w W := hb0.trans hB.1
      have hc := hv.cell
      clear hS IH HPL K1
      generalize (childs f t f.length).map (tree f) = M at *
      have K3 := hid (inOrder_c W0.heap.size W v M hrow (by have := HML.out; omega))
      have HSL := hid (show (sortT M).length ≤ 7 by rw [sortT_len]; exact HML.out)
      have HSM := hid (show ∀ s ∈ sortT M, s.length ≤ 268435456 from fun s hs => HMM.out s ((sortT_perm _).mem_iff.1 hs))
      generalize sortT M = S at *
      have hfl : S.flatten.length ≤ 7 * 268435456 := Nat.le_trans (flat_le HSM.out) (Nat.mul_le_mul_right _ HSL.out)
      have HJ := hid (join_empty S)
      obtain ⟨A4, c4, rfl⟩ := OwnS.form hrow
      gi_wp2_with (refine ⟨trivial, ?_⟩; gi_at_call 36; refine (callsIn_wide.2 K3.out).mono ?_; rintro e w2 ⟨A5, c5, rfl, o5, b5⟩)
      have K4 := hid (join_c W.heap.size w2 _ S [] o5 (by have := HSL.out; omega) (by rw [HJ.out]; omega))
      rw [HJ.out] at K4
      have hq : Op.stringOp .add ⟨#[40]⟩ (bs S.flatten) = pure (.string (bs (40 :: S.flatten))) := str_add [40] S.flatten (by simp only [List.length_singleton]; omega)
      have hq2 : Op.stringOp .add (bs (40 :: S.flatten)) ⟨#[41]⟩ = pure (.string (bs (40 :: (S.flatten ++ [41])))) := str_add (40 :: S.flatten) [41] (by rw [List.length_cons]; simp only [List.length_singleton]; omega)
      rw [← HE.out] at hq2
      clear HJ hfl HE
      obtain ⟨Y, hY⟩ : ∃ Y, tree f t = Y := ⟨_, rfl⟩
      rw [hY] at hq2
      have HY := hid hY
      clear hY
      generalize (40 :: S.flatten : Txt) = X at *
      generalize S.flatten = Z at *
      gi_wp2_with (refine ⟨trivial, ?_⟩; gi_at_call 35; refine (callsIn_wide.2 K4.out).mono ?_; rintro e w3 ⟨rfl, b6⟩)
      have b3 : Below W.heap.size W w3 := b5.trans (b6.mono b5.size)
      have hK3 : w3.heap[D]? = some (.deferred (some [])) := (b3.block D (Array.getElem?_eq_some_iff.1 hK).1).trans hK
      refine ⟨by simp, .inl ⟨_, _, rfl, run_takeDeferred hK3, ?_⟩⟩
      refine ⟨_, results_tmp rfl _ _ _, by rw [HY.out]; rfl, ?_⟩
      exact (hBb.trans (b3.mono hBb.size)).trans ((belowK_b (w := W0) (Nat.le_refl _) w3 D _ _ hD hK3 rfl rfl).mono (by omega))
    case stop =>
      rintro D c pre W _ _ h _
      exact h.elim
theorem iTreeText_c (A : Option Addr) (c : Nat) (f : List Int) (t : Int) (w : World) (hR : RdA w A f) (hn : f.length ≤ 1048577) :
    Calls Try.prog 47 #[.slice A f.length c, .int .i64 t] w fun e w' => e = .returned (.string (bs (treeV f t))) ∧ Below w.heap.size w w' := by
  by_cases ht : thB f t = true
  · obtain ⟨n, rfl, hlt, hg⟩ := th_nat ht
    have HE := hid (show treeV f n = tree f n by rw [treeV, if_pos ht, Int.toNat_natCast])
    rw [HE.out]
    exact iTree_in A c f hg 7 n w hlt (by omega) hR
  · have HE := hid (show treeV f t = [] from if_neg ht)
    have k1 := hid (fun W (hb : Below w.heap.size w W) => thingOk_c A c f t W (hR.below hb) hn)
    rw [th_no ht] at k1
    clear ht hR
    go_enter Try.func47, Try.ntmps47
    go_wp2_with fail
    refine (k1.out _ ((Below.refl _ w).alloc (Nat.le_refl _) _)).mono ?_; rintro e w' ⟨rfl, rfl⟩
    go_wp2_with fail
    go_ret
    rw [HE.out]
    exact ⟨rfl, (Below.refl _ w).alloc (Nat.le_refl _) _⟩

end Go.Proofs.Ytjipecfoiddkjaa
