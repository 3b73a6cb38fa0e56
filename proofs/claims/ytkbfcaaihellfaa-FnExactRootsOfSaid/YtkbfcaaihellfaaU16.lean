/- Steps on the way to the law; each part says what it proves. -/
import Derived.Test.YtkbfcaaihellfaaU15
import Derived.Test.YtkbfcaaihellfaaU5

set_option linter.unusedSimpArgs false

/- Walks in company: the tests that RootsOf and AllWith hand to mapsThat. -/
namespace Go.Proofs.Ytkbfcaaihellfaa
open Go.Conc Go.ConcN Go.RowKit
set_option linter.unusedVariables false
set_option linter.unusedSectionVars false

section
variable [Go.ConcR.Payload] {main : Bool} {ty : TypeId} {Wg : Nat} {S : Nat → Prop} {T : Gh → Goroutine → World → Prop} {y : Gh} {w : World}
set_option maxHeartbeats 8000000 in
theorem rootsOf1_g (hT : Clo Try.prog main (RG ty Wg S) (DG main Wg S) T) (A : Option Addr) (c : Nat) (xs : List Int) (hA : RdA w A xs) (hS : Sees y S A) (hn : xs.length ≤ 1048577) (hB : Bd S y w)
    (bx : Addr) (hbS : S bx.block) (F : Option Addr) (nf cf : Nat) (f : List Int) (hbox : w.cell? bx = some (.slice F f.length cf)) (hf : RdA w F f) (hfS : ∀ ad, F = some ad → S ad.block) (hnf : f.length ≤ 1048577) :
    CallsT Try.prog T 42 #[.slice A xs.length c, .pointer (some bx)] y w fun v y' w' => v = .bool (decide (behindL xs xs = f)) ∧ Gw ty Wg S y w y' w' := by
  have hSf : Sees y S F := fun ad e => .inr (hfS ad e)
  have hbl : (behindL xs xs).length ≤ 1048577 := by
    unfold behindL
    split
    · rw [mk_len]; exact hn
    · simp
  refine callsT_of Try.func42 rfl fun fr cs hc => ?_
  simp only [Try.ntmps42, List.size_toArray, List.length_cons, List.length_nil, Nat.reduceAdd, Nat.reduceSub, Array.replicate_succ, Array.replicate_zero, List.push_toArray, List.append_toArray, List.nil_append, List.cons_append]
  have hF : RG ty Wg S y w w := RM.refl w
  repeat (first | refine t_seq hT ?_ | refine t_block hT ?_ | refine t_skip hT ?_ | refine t_inBlock hT ?_ | refine t_rend hT ?_ | refine t_exit hT rfl ?_)
  refine t_region hT [0] rfl ?_
  refine t_op hT rfl (by rfl) (by first | decide | assumption) (by first | rfl | (rw [hro]; rfl)) (fun _ hR K hK => ?_)
  replace hF := hF.trans hR
  clear hR
  go_simp
  try (unfold stored; go_simp)
  try go_ints
  refine hK _ _ y (by rw [listed_nil (by simp [go_sem, *])]; exact hT.idle _ _) ?_
  clear hK K
  try walk_nrm
  repeat (first | refine t_seq hT ?_ | refine t_block hT ?_ | refine t_skip hT ?_ | refine t_inBlock hT ?_ | refine t_rend hT ?_ | refine t_exit hT rfl ?_)
  refine t_drawL hT (by first | kernel_rfl | rfl) (L := [[0, 1, 2, 3, 4, 5], [0, 1, 3, 2, 4, 5], [0, 3, 1, 2, 4, 5], [1, 0, 2, 3, 4, 5], [1, 0, 3, 2, 4, 5], [1, 3, 0, 2, 4, 5], [3, 0, 1, 2, 4, 5], [3, 1, 0, 2, 4, 5]]) (by decide +kernel) (fun w₁ hR l hl => ?_)
  replace hF : RG ty Wg S y w { w₁ with drawn := w₁.drawn + 1 } := (hF.trans hR).trans ⟨fun _ _ => rfl, Nat.le_refl _, id⟩
  clear hR
  simp only [List.mem_cons, List.not_mem_nil, or_false] at hl
  rcases hl with rfl | rfl | rfl | rfl | rfl | rfl | rfl | rfl
  · skip
    refine t_op hT rfl (by rfl) (by first | decide | assumption) (by first | rfl | (rw [hro]; rfl)) (fun _ hR K hK => ?_)
    replace hF := hF.trans hR
    clear hR
    go_simp
    try (unfold stored; go_simp)
    try go_ints
    refine hK _ _ y (by rw [listed_nil (by simp [go_sem, *])]; exact hT.idle _ _) ?_
    clear hK K
    try walk_nrm
    refine t_op hT rfl (by rfl) (by first | decide | assumption) (by first | rfl | (rw [hro]; rfl)) (fun _ hR K hK => ?_)
    replace hF := hF.trans hR
    clear hR
    go_simp
    try (unfold stored; go_simp)
    try go_ints
    refine hK _ _ y (by rw [listed_nil (by simp [go_sem, *])]; exact hT.idle _ _) ?_
    clear hK K
    try walk_nrm
    refine t_call hT rfl (by rfl) (by decide) rfl rfl Try.func25 (by rfl) rfl (by walk_nrm; exact behindOf_g hT _ _ _ _ xs xs (rdA_rely hS hF hA) hS (rdA_rely hS hF hA) hS hn hn (hB.rely hF)) ?_
    rintro _ y1 w1 ⟨A1, c1, rfl, hr1, hs1, gw, _⟩
    replace hF := And.intro ((Gw.of_rg hB hF).trans gw) hr1
    clear hr1 gw
    have hsub := hF.1.sub
    try walk_nrm
    refine t_op hT rfl (by rfl) (by first | decide | assumption) (by first | rfl | (rw [hro]; rfl)) (fun _ hR K hK => ?_)
    replace hF := And.intro (hF.1.rely hR) (rdA_rely hs1 hR hF.2)
    clear hR
    have hce := (cell_rely (.inr hbS) hF.1.rg).trans hbox
    go_simp
    try (unfold stored; go_simp)
    try go_ints
    refine hK _ _ y1 (dg_reads ?_) ?_
    · co_evs (exact evm_read (.inr hbS))
    clear hK K
    try walk_nrm
    clear hce
    refine t_call hT rfl (by rfl) (by decide) rfl rfl Try.func43 (by rfl) rfl (by walk_nrm; exact equal_g hT _ _ _ _ (behindL xs xs) f hF.2 hs1 (rdA_rely hSf hF.1.rg hf) (fun ad e => .inr (hfS ad e)) hbl hnf) ?_
    rintro _ _ _ ⟨rfl, rfl, hG⟩
    replace hF := And.intro (hF.1.rely hG) (rdA_rely hs1 hG hF.2)
    clear hG
    try walk_nrm
    refine t_op hT rfl (by rfl) (by first | decide | assumption) (by first | rfl | (rw [hro]; rfl)) (fun _ hR K hK => ?_)
    replace hF := And.intro (hF.1.rely hR) (rdA_rely hs1 hR hF.2)
    clear hR
    go_simp
    try (unfold stored; go_simp)
    try go_ints
    refine hK _ _ y1 (by rw [listed_nil (by simp [go_sem, *])]; exact hT.idle _ _) ?_
    clear hK K
    try walk_nrm
    repeat (first | refine t_seq hT ?_ | refine t_block hT ?_ | refine t_skip hT ?_ | refine t_inBlock hT ?_ | refine t_rend hT ?_ | refine t_exit hT rfl ?_)
    refine t_ret hT rfl rfl rfl Try.func42 (resultsC_tmp (by rfl) _) (hc _ _ _ ?_)
    exact ⟨by simp, hF.1⟩
  · skip
    refine t_op hT rfl (by rfl) (by first | decide | assumption) (by first | rfl | (rw [hro]; rfl)) (fun _ hR K hK => ?_)
    replace hF := hF.trans hR
    clear hR
    go_simp
    try (unfold stored; go_simp)
    try go_ints
    refine hK _ _ y (by rw [listed_nil (by simp [go_sem, *])]; exact hT.idle _ _) ?_
    clear hK K
    try walk_nrm
    refine t_op hT rfl (by rfl) (by first | decide | assumption) (by first | rfl | (rw [hro]; rfl)) (fun _ hR K hK => ?_)
    replace hF := hF.trans hR
    clear hR
    go_simp
    try (unfold stored; go_simp)
    try go_ints
    refine hK _ _ y (by rw [listed_nil (by simp [go_sem, *])]; exact hT.idle _ _) ?_
    clear hK K
    try walk_nrm
    refine t_op hT rfl (by rfl) (by first | decide | assumption) (by first | rfl | (rw [hro]; rfl)) (fun _ hR K hK => ?_)
    replace hF := hF.trans hR
    clear hR
    have hce := (cell_rely (.inr hbS) hF).trans hbox
    go_simp
    try (unfold stored; go_simp)
    try go_ints
    refine hK _ _ y (dg_reads ?_) ?_
    · co_evs (exact evm_read (.inr hbS))
    clear hK K
    try walk_nrm
    clear hce
    refine t_call hT rfl (by rfl) (by decide) rfl rfl Try.func25 (by rfl) rfl (by walk_nrm; exact behindOf_g hT _ _ _ _ xs xs (rdA_rely hS hF hA) hS (rdA_rely hS hF hA) hS hn hn (hB.rely hF)) ?_
    rintro _ y1 w1 ⟨A1, c1, rfl, hr1, hs1, gw, _⟩
    replace hF := And.intro ((Gw.of_rg hB hF).trans gw) hr1
    clear hr1 gw
    have hsub := hF.1.sub
    try walk_nrm
    refine t_call hT rfl (by rfl) (by decide) rfl rfl Try.func43 (by rfl) rfl (by walk_nrm; exact equal_g hT _ _ _ _ (behindL xs xs) f hF.2 hs1 (rdA_rely hSf hF.1.rg hf) (fun ad e => .inr (hfS ad e)) hbl hnf) ?_
    rintro _ _ _ ⟨rfl, rfl, hG⟩
    replace hF := And.intro (hF.1.rely hG) (rdA_rely hs1 hG hF.2)
    clear hG
    try walk_nrm
    refine t_op hT rfl (by rfl) (by first | decide | assumption) (by first | rfl | (rw [hro]; rfl)) (fun _ hR K hK => ?_)
    replace hF := And.intro (hF.1.rely hR) (rdA_rely hs1 hR hF.2)
    clear hR
    go_simp
    try (unfold stored; go_simp)
    try go_ints
    refine hK _ _ y1 (by rw [listed_nil (by simp [go_sem, *])]; exact hT.idle _ _) ?_
    clear hK K
    try walk_nrm
    repeat (first | refine t_seq hT ?_ | refine t_block hT ?_ | refine t_skip hT ?_ | refine t_inBlock hT ?_ | refine t_rend hT ?_ | refine t_exit hT rfl ?_)
    refine t_ret hT rfl rfl rfl Try.func42 (resultsC_tmp (by rfl) _) (hc _ _ _ ?_)
    exact ⟨by simp, hF.1⟩
  · skip
    refine t_op hT rfl (by rfl) (by first | decide | assumption) (by first | rfl | (rw [hro]; rfl)) (fun _ hR K hK => ?_)
    replace hF := hF.trans hR
    clear hR
    go_simp
    try (unfold stored; go_simp)
    try go_ints
    refine hK _ _ y (by rw [listed_nil (by simp [go_sem, *])]; exact hT.idle _ _) ?_
    clear hK K
    try walk_nrm
    refine t_op hT rfl (by rfl) (by first | decide | assumption) (by first | rfl | (rw [hro]; rfl)) (fun _ hR K hK => ?_)
    replace hF := hF.trans hR
    clear hR
    have hce := (cell_rely (.inr hbS) hF).trans hbox
    go_simp
    try (unfold stored; go_simp)
    try go_ints
    refine hK _ _ y (dg_reads ?_) ?_
    · co_evs (exact evm_read (.inr hbS))
    clear hK K
    try walk_nrm
    clear hce
    refine t_op hT rfl (by rfl) (by first | decide | assumption) (by first | rfl | (rw [hro]; rfl)) (fun _ hR K hK => ?_)
    replace hF := hF.trans hR
    clear hR
    go_simp
    try (unfold stored; go_simp)
    try go_ints
    refine hK _ _ y (by rw [listed_nil (by simp [go_sem, *])]; exact hT.idle _ _) ?_
    clear hK K
    try walk_nrm
    refine t_call hT rfl (by rfl) (by decide) rfl rfl Try.func25 (by rfl) rfl (by walk_nrm; exact behindOf_g hT _ _ _ _ xs xs (rdA_rely hS hF hA) hS (rdA_rely hS hF hA) hS hn hn (hB.rely hF)) ?_
    rintro _ y1 w1 ⟨A1, c1, rfl, hr1, hs1, gw, _⟩
    replace hF := And.intro ((Gw.of_rg hB hF).trans gw) hr1
    clear hr1 gw
    have hsub := hF.1.sub
    try walk_nrm
    refine t_call hT rfl (by rfl) (by decide) rfl rfl Try.func43 (by rfl) rfl (by walk_nrm; exact equal_g hT _ _ _ _ (behindL xs xs) f hF.2 hs1 (rdA_rely hSf hF.1.rg hf) (fun ad e => .inr (hfS ad e)) hbl hnf) ?_
    rintro _ _ _ ⟨rfl, rfl, hG⟩
    replace hF := And.intro (hF.1.rely hG) (rdA_rely hs1 hG hF.2)
    clear hG
    try walk_nrm
    refine t_op hT rfl (by rfl) (by first | decide | assumption) (by first | rfl | (rw [hro]; rfl)) (fun _ hR K hK => ?_)
    replace hF := And.intro (hF.1.rely hR) (rdA_rely hs1 hR hF.2)
    clear hR
    go_simp
    try (unfold stored; go_simp)
    try go_ints
    refine hK _ _ y1 (by rw [listed_nil (by simp [go_sem, *])]; exact hT.idle _ _) ?_
    clear hK K
    try walk_nrm
    repeat (first | refine t_seq hT ?_ | refine t_block hT ?_ | refine t_skip hT ?_ | refine t_inBlock hT ?_ | refine t_rend hT ?_ | refine t_exit hT rfl ?_)
    refine t_ret hT rfl rfl rfl Try.func42 (resultsC_tmp (by rfl) _) (hc _ _ _ ?_)
    exact ⟨by simp, hF.1⟩
  · skip
    refine t_op hT rfl (by rfl) (by first | decide | assumption) (by first | rfl | (rw [hro]; rfl)) (fun _ hR K hK => ?_)
    replace hF := hF.trans hR
    clear hR
    go_simp
    try (unfold stored; go_simp)
    try go_ints
    refine hK _ _ y (by rw [listed_nil (by simp [go_sem, *])]; exact hT.idle _ _) ?_
    clear hK K
    try walk_nrm
    refine t_op hT rfl (by rfl) (by first | decide | assumption) (by first | rfl | (rw [hro]; rfl)) (fun _ hR K hK => ?_)
    replace hF := hF.trans hR
    clear hR
    go_simp
    try (unfold stored; go_simp)
    try go_ints
    refine hK _ _ y (by rw [listed_nil (by simp [go_sem, *])]; exact hT.idle _ _) ?_
    clear hK K
    try walk_nrm
    refine t_call hT rfl (by rfl) (by decide) rfl rfl Try.func25 (by rfl) rfl (by walk_nrm; exact behindOf_g hT _ _ _ _ xs xs (rdA_rely hS hF hA) hS (rdA_rely hS hF hA) hS hn hn (hB.rely hF)) ?_
    rintro _ y1 w1 ⟨A1, c1, rfl, hr1, hs1, gw, _⟩
    replace hF := And.intro ((Gw.of_rg hB hF).trans gw) hr1
    clear hr1 gw
    have hsub := hF.1.sub
    try walk_nrm
    refine t_op hT rfl (by rfl) (by first | decide | assumption) (by first | rfl | (rw [hro]; rfl)) (fun _ hR K hK => ?_)
    replace hF := And.intro (hF.1.rely hR) (rdA_rely hs1 hR hF.2)
    clear hR
    have hce := (cell_rely (.inr hbS) hF.1.rg).trans hbox
    go_simp
    try (unfold stored; go_simp)
    try go_ints
    refine hK _ _ y1 (dg_reads ?_) ?_
    · co_evs (exact evm_read (.inr hbS))
    clear hK K
    try walk_nrm
    clear hce
    refine t_call hT rfl (by rfl) (by decide) rfl rfl Try.func43 (by rfl) rfl (by walk_nrm; exact equal_g hT _ _ _ _ (behindL xs xs) f hF.2 hs1 (rdA_rely hSf hF.1.rg hf) (fun ad e => .inr (hfS ad e)) hbl hnf) ?_
    rintro _ _ _ ⟨rfl, rfl, hG⟩
    replace hF := And.intro (hF.1.rely hG) (rdA_rely hs1 hG hF.2)
    clear hG
    try walk_nrm
    refine t_op hT rfl (by rfl) (by first | decide | assumption) (by first | rfl | (rw [hro]; rfl)) (fun _ hR K hK => ?_)
    replace hF := And.intro (hF.1.rely hR) (rdA_rely hs1 hR hF.2)
    clear hR
    go_simp
    try (unfold stored; go_simp)
    try go_ints
    refine hK _ _ y1 (by rw [listed_nil (by simp [go_sem, *])]; exact hT.idle _ _) ?_
    clear hK K
    try walk_nrm
    repeat (first | refine t_seq hT ?_ | refine t_block hT ?_ | refine t_skip hT ?_ | refine t_inBlock hT ?_ | refine t_rend hT ?_ | refine t_exit hT rfl ?_)
    refine t_ret hT rfl rfl rfl Try.func42 (resultsC_tmp (by rfl) _) (hc _ _ _ ?_)
    exact ⟨by simp, hF.1⟩
  · skip
    refine t_op hT rfl (by rfl) (by first | decide | assumption) (by first | rfl | (rw [hro]; rfl)) (fun _ hR K hK => ?_)
    replace hF := hF.trans hR
    clear hR
    go_simp
    try (unfold stored; go_simp)
    try go_ints
    refine hK _ _ y (by rw [listed_nil (by simp [go_sem, *])]; exact hT.idle _ _) ?_
    clear hK K
    try walk_nrm
    refine t_op hT rfl (by rfl) (by first | decide | assumption) (by first | rfl | (rw [hro]; rfl)) (fun _ hR K hK => ?_)
    replace hF := hF.trans hR
    clear hR
    go_simp
    try (unfold stored; go_simp)
    try go_ints
    refine hK _ _ y (by rw [listed_nil (by simp [go_sem, *])]; exact hT.idle _ _) ?_
    clear hK K
    try walk_nrm
    refine t_op hT rfl (by rfl) (by first | decide | assumption) (by first | rfl | (rw [hro]; rfl)) (fun _ hR K hK => ?_)
    replace hF := hF.trans hR
    clear hR
    have hce := (cell_rely (.inr hbS) hF).trans hbox
    go_simp
    try (unfold stored; go_simp)
    try go_ints
    refine hK _ _ y (dg_reads ?_) ?_
    · co_evs (exact evm_read (.inr hbS))
    clear hK K
    try walk_nrm
    clear hce
    refine t_call hT rfl (by rfl) (by decide) rfl rfl Try.func25 (by rfl) rfl (by walk_nrm; exact behindOf_g hT _ _ _ _ xs xs (rdA_rely hS hF hA) hS (rdA_rely hS hF hA) hS hn hn (hB.rely hF)) ?_
    rintro _ y1 w1 ⟨A1, c1, rfl, hr1, hs1, gw, _⟩
    replace hF := And.intro ((Gw.of_rg hB hF).trans gw) hr1
    clear hr1 gw
    have hsub := hF.1.sub
    try walk_nrm
    refine t_call hT rfl (by rfl) (by decide) rfl rfl Try.func43 (by rfl) rfl (by walk_nrm; exact equal_g hT _ _ _ _ (behindL xs xs) f hF.2 hs1 (rdA_rely hSf hF.1.rg hf) (fun ad e => .inr (hfS ad e)) hbl hnf) ?_
    rintro _ _ _ ⟨rfl, rfl, hG⟩
    replace hF := And.intro (hF.1.rely hG) (rdA_rely hs1 hG hF.2)
    clear hG
    try walk_nrm
    refine t_op hT rfl (by rfl) (by first | decide | assumption) (by first | rfl | (rw [hro]; rfl)) (fun _ hR K hK => ?_)
    replace hF := And.intro (hF.1.rely hR) (rdA_rely hs1 hR hF.2)
    clear hR
    go_simp
    try (unfold stored; go_simp)
    try go_ints
    refine hK _ _ y1 (by rw [listed_nil (by simp [go_sem, *])]; exact hT.idle _ _) ?_
    clear hK K
    try walk_nrm
    repeat (first | refine t_seq hT ?_ | refine t_block hT ?_ | refine t_skip hT ?_ | refine t_inBlock hT ?_ | refine t_rend hT ?_ | refine t_exit hT rfl ?_)
    refine t_ret hT rfl rfl rfl Try.func42 (resultsC_tmp (by rfl) _) (hc _ _ _ ?_)
    exact ⟨by simp, hF.1⟩
  · skip
    refine t_op hT rfl (by rfl) (by first | decide | assumption) (by first | rfl | (rw [hro]; rfl)) (fun _ hR K hK => ?_)
    replace hF := hF.trans hR
    clear hR
    go_simp
    try (unfold stored; go_simp)
    try go_ints
    refine hK _ _ y (by rw [listed_nil (by simp [go_sem, *])]; exact hT.idle _ _) ?_
    clear hK K
    try walk_nrm
    refine t_op hT rfl (by rfl) (by first | decide | assumption) (by first | rfl | (rw [hro]; rfl)) (fun _ hR K hK => ?_)
    replace hF := hF.trans hR
    clear hR
    have hce := (cell_rely (.inr hbS) hF).trans hbox
    go_simp
    try (unfold stored; go_simp)
    try go_ints
    refine hK _ _ y (dg_reads ?_) ?_
    · co_evs (exact evm_read (.inr hbS))
    clear hK K
    try walk_nrm
    clear hce
    refine t_op hT rfl (by rfl) (by first | decide | assumption) (by first | rfl | (rw [hro]; rfl)) (fun _ hR K hK => ?_)
    replace hF := hF.trans hR
    clear hR
    go_simp
    try (unfold stored; go_simp)
    try go_ints
    refine hK _ _ y (by rw [listed_nil (by simp [go_sem, *])]; exact hT.idle _ _) ?_
    clear hK K
    try walk_nrm
    refine t_call hT rfl (by rfl) (by decide) rfl rfl Try.func25 (by rfl) rfl (by walk_nrm; exact behindOf_g hT _ _ _ _ xs xs (rdA_rely hS hF hA) hS (rdA_rely hS hF hA) hS hn hn (hB.rely hF)) ?_
    rintro _ y1 w1 ⟨A1, c1, rfl, hr1, hs1, gw, _⟩
    replace hF := And.intro ((Gw.of_rg hB hF).trans gw) hr1
    clear hr1 gw
    have hsub := hF.1.sub
    try walk_nrm
    refine t_call hT rfl (by rfl) (by decide) rfl rfl Try.func43 (by rfl) rfl (by walk_nrm; exact equal_g hT _ _ _ _ (behindL xs xs) f hF.2 hs1 (rdA_rely hSf hF.1.rg hf) (fun ad e => .inr (hfS ad e)) hbl hnf) ?_
    rintro _ _ _ ⟨rfl, rfl, hG⟩
    replace hF := And.intro (hF.1.rely hG) (rdA_rely hs1 hG hF.2)
    clear hG
    try walk_nrm
    refine t_op hT rfl (by rfl) (by first | decide | assumption) (by first | rfl | (rw [hro]; rfl)) (fun _ hR K hK => ?_)
    replace hF := And.intro (hF.1.rely hR) (rdA_rely hs1 hR hF.2)
    clear hR
    go_simp
    try (unfold stored; go_simp)
    try go_ints
    refine hK _ _ y1 (by rw [listed_nil (by simp [go_sem, *])]; exact hT.idle _ _) ?_
    clear hK K
    try walk_nrm
    repeat (first | refine t_seq hT ?_ | refine t_block hT ?_ | refine t_skip hT ?_ | refine t_inBlock hT ?_ | refine t_rend hT ?_ | refine t_exit hT rfl ?_)
    refine t_ret hT rfl rfl rfl Try.func42 (resultsC_tmp (by rfl) _) (hc _ _ _ ?_)
    exact ⟨by simp, hF.1⟩
  · skip
    refine t_op hT rfl (by rfl) (by first | decide | assumption) (by first | rfl | (rw [hro]; rfl)) (fun _ hR K hK => ?_)
    replace hF := hF.trans hR
    clear hR
    have hce := (cell_rely (.inr hbS) hF).trans hbox
    go_simp
    try (unfold stored; go_simp)
    try go_ints
    refine hK _ _ y (dg_reads ?_) ?_
    · co_evs (exact evm_read (.inr hbS))
    clear hK K
    try walk_nrm
    clear hce
    refine t_op hT rfl (by rfl) (by first | decide | assumption) (by first | rfl | (rw [hro]; rfl)) (fun _ hR K hK => ?_)
    replace hF := hF.trans hR
    clear hR
    go_simp
    try (unfold stored; go_simp)
    try go_ints
    refine hK _ _ y (by rw [listed_nil (by simp [go_sem, *])]; exact hT.idle _ _) ?_
    clear hK K
    try walk_nrm
    refine t_op hT rfl (by rfl) (by first | decide | assumption) (by first | rfl | (rw [hro]; rfl)) (fun _ hR K hK => ?_)
    replace hF := hF.trans hR
    clear hR
    go_simp
    try (unfold stored; go_simp)
    try go_ints
    refine hK _ _ y (by rw [listed_nil (by simp [go_sem, *])]; exact hT.idle _ _) ?_
    clear hK K
    try walk_nrm
    refine t_call hT rfl (by rfl) (by decide) rfl rfl Try.func25 (by rfl) rfl (by walk_nrm; exact behindOf_g hT _ _ _ _ xs xs (rdA_rely hS hF hA) hS (rdA_rely hS hF hA) hS hn hn (hB.rely hF)) ?_
    rintro _ y1 w1 ⟨A1, c1, rfl, hr1, hs1, gw, _⟩
    replace hF := And.intro ((Gw.of_rg hB hF).trans gw) hr1
    clear hr1 gw
    have hsub := hF.1.sub
    try walk_nrm
    refine t_call hT rfl (by rfl) (by decide) rfl rfl Try.func43 (by rfl) rfl (by walk_nrm; exact equal_g hT _ _ _ _ (behindL xs xs) f hF.2 hs1 (rdA_rely hSf hF.1.rg hf) (fun ad e => .inr (hfS ad e)) hbl hnf) ?_
    rintro _ _ _ ⟨rfl, rfl, hG⟩
    replace hF := And.intro (hF.1.rely hG) (rdA_rely hs1 hG hF.2)
    clear hG
    try walk_nrm
    refine t_op hT rfl (by rfl) (by first | decide | assumption) (by first | rfl | (rw [hro]; rfl)) (fun _ hR K hK => ?_)
    replace hF := And.intro (hF.1.rely hR) (rdA_rely hs1 hR hF.2)
    clear hR
    go_simp
    try (unfold stored; go_simp)
    try go_ints
    refine hK _ _ y1 (by rw [listed_nil (by simp [go_sem, *])]; exact hT.idle _ _) ?_
    clear hK K
    try walk_nrm
    repeat (first | refine t_seq hT ?_ | refine t_block hT ?_ | refine t_skip hT ?_ | refine t_inBlock hT ?_ | refine t_rend hT ?_ | refine t_exit hT rfl ?_)
    refine t_ret hT rfl rfl rfl Try.func42 (resultsC_tmp (by rfl) _) (hc _ _ _ ?_)
    exact ⟨by simp, hF.1⟩
  · skip
    refine t_op hT rfl (by rfl) (by first | decide | assumption) (by first | rfl | (rw [hro]; rfl)) (fun _ hR K hK => ?_)
    replace hF := hF.trans hR
    clear hR
    have hce := (cell_rely (.inr hbS) hF).trans hbox
    go_simp
    try (unfold stored; go_simp)
    try go_ints
    refine hK _ _ y (dg_reads ?_) ?_
    · co_evs (exact evm_read (.inr hbS))
    clear hK K
    try walk_nrm
    clear hce
    refine t_op hT rfl (by rfl) (by first | decide | assumption) (by first | rfl | (rw [hro]; rfl)) (fun _ hR K hK => ?_)
    replace hF := hF.trans hR
    clear hR
    go_simp
    try (unfold stored; go_simp)
    try go_ints
    refine hK _ _ y (by rw [listed_nil (by simp [go_sem, *])]; exact hT.idle _ _) ?_
    clear hK K
    try walk_nrm
    refine t_op hT rfl (by rfl) (by first | decide | assumption) (by first | rfl | (rw [hro]; rfl)) (fun _ hR K hK => ?_)
    replace hF := hF.trans hR
    clear hR
    go_simp
    try (unfold stored; go_simp)
    try go_ints
    refine hK _ _ y (by rw [listed_nil (by simp [go_sem, *])]; exact hT.idle _ _) ?_
    clear hK K
    try walk_nrm
    refine t_call hT rfl (by rfl) (by decide) rfl rfl Try.func25 (by rfl) rfl (by walk_nrm; exact behindOf_g hT _ _ _ _ xs xs (rdA_rely hS hF hA) hS (rdA_rely hS hF hA) hS hn hn (hB.rely hF)) ?_
    rintro _ y1 w1 ⟨A1, c1, rfl, hr1, hs1, gw, _⟩
    replace hF := And.intro ((Gw.of_rg hB hF).trans gw) hr1
    clear hr1 gw
    have hsub := hF.1.sub
    try walk_nrm
    refine t_call hT rfl (by rfl) (by decide) rfl rfl Try.func43 (by rfl) rfl (by walk_nrm; exact equal_g hT _ _ _ _ (behindL xs xs) f hF.2 hs1 (rdA_rely hSf hF.1.rg hf) (fun ad e => .inr (hfS ad e)) hbl hnf) ?_
    rintro _ _ _ ⟨rfl, rfl, hG⟩
    replace hF := And.intro (hF.1.rely hG) (rdA_rely hs1 hG hF.2)
    clear hG
    try walk_nrm
    refine t_op hT rfl (by rfl) (by first | decide | assumption) (by first | rfl | (rw [hro]; rfl)) (fun _ hR K hK => ?_)
    replace hF := And.intro (hF.1.rely hR) (rdA_rely hs1 hR hF.2)
    clear hR
    go_simp
    try (unfold stored; go_simp)
    try go_ints
    refine hK _ _ y1 (by rw [listed_nil (by simp [go_sem, *])]; exact hT.idle _ _) ?_
    clear hK K
    try walk_nrm
    repeat (first | refine t_seq hT ?_ | refine t_block hT ?_ | refine t_skip hT ?_ | refine t_inBlock hT ?_ | refine t_rend hT ?_ | refine t_exit hT rfl ?_)
    refine t_ret hT rfl rfl rfl Try.func42 (resultsC_tmp (by rfl) _) (hc _ _ _ ?_)
    exact ⟨by simp, hF.1⟩

theorem behindL_le {f g : List Int} (h : f.length ≤ 1048577) : (behindL f g).length ≤ 1048577 := by
  unfold behindL
  split
  · rw [mk_len]; exact h
  · simp
set_option maxHeartbeats 4000000 in
theorem withOk_g (hT : Clo Try.prog main (RG ty Wg S) (DG main Wg S) T) (A B : Option Addr) (c d : Nat) (f g : List Int) (hA : RdA w A f) (hS : Sees y S A) (hA2 : RdA w B g) (hS2 : Sees y S B) (hn : f.length ≤ 1048577) (hm : g.length ≤ 1048577) (hB : Bd S y w) :
    CallsT Try.prog T 24 #[.slice A f.length c, .slice B g.length d] y w fun v y' w' => v = .bool (decide (behindL f g ≠ [] ∧ behindL f g = behindL g f)) ∧ Gw ty Wg S y w y' w' := by
  refine callsT_of Try.func24 rfl fun fr cs hc => ?_
  simp only [Try.ntmps24, List.size_toArray, List.length_cons, List.length_nil, Nat.reduceAdd, Nat.reduceSub, Array.replicate_succ, Array.replicate_zero, List.push_toArray, List.append_toArray, List.nil_append, List.cons_append]
  have hF : RG ty Wg S y w w := RM.refl w
  have hq := run_neqnil
  have hq2 := evs_neqnil
  repeat (first | refine t_seq hT ?_ | refine t_block hT ?_ | refine t_skip hT ?_ | refine t_inBlock hT ?_ | refine t_rend hT ?_ | refine t_exit hT rfl ?_)
  refine t_region hT [0] rfl ?_
  refine t_op hT rfl (by rfl) (by first | decide | assumption) (by first | rfl | (rw [hro]; rfl)) (fun _ hR K hK => ?_)
  replace hF := hF.trans hR
  clear hR
  go_simp
  try (unfold stored; go_simp)
  try go_ints
  refine hK _ _ y (by rw [listed_nil (by simp [go_sem, *])]; exact hT.idle _ _) ?_
  clear hK K
  try walk_nrm
  repeat (first | refine t_seq hT ?_ | refine t_block hT ?_ | refine t_skip hT ?_ | refine t_inBlock hT ?_ | refine t_rend hT ?_ | refine t_exit hT rfl ?_)
  refine t_region hT [0, 1, 2, 3] rfl ?_
  refine t_op hT rfl (by rfl) (by first | decide | assumption) (by first | rfl | (rw [hro]; rfl)) (fun _ hR K hK => ?_)
  replace hF := hF.trans hR
  clear hR
  go_simp
  try (unfold stored; go_simp)
  try go_ints
  refine hK _ _ y (by rw [listed_nil (by simp [go_sem, *])]; exact hT.idle _ _) ?_
  clear hK K
  try walk_nrm
  refine t_op hT rfl (by rfl) (by first | decide | assumption) (by first | rfl | (rw [hro]; rfl)) (fun _ hR K hK => ?_)
  replace hF := hF.trans hR
  clear hR
  go_simp
  try (unfold stored; go_simp)
  try go_ints
  refine hK _ _ y (by rw [listed_nil (by simp [go_sem, *])]; exact hT.idle _ _) ?_
  clear hK K
  try walk_nrm
  refine t_call hT rfl (by rfl) (by decide) rfl rfl Try.func25 (by rfl) rfl (by walk_nrm; exact behindOf_g hT _ _ _ _ f g (rdA_rely hS hF hA) hS (rdA_rely hS2 hF hA2) hS2 hn hm (hB.rely hF)) ?_
  rintro _ y1 w1 ⟨A1, c1, rfl, hr1, hs1, gw, hnil⟩
  replace hF := And.intro ((Gw.of_rg hB hF).trans gw) hr1
  clear hr1 gw
  have hsub := hF.1.sub
  try walk_nrm
  by_cases h0 : behindL f g = []
  · obtain ⟨rfl, rfl⟩ := hnil h0
    have H0 := hid h0
    rw [h0]
    clear h0
    refine t_op hT rfl (by rfl) (by first | decide | assumption) (by first | rfl | (rw [hro]; rfl)) (fun _ hR K hK => ?_)
    replace hF := And.intro (hF.1.rely hR) (rdA_rely hs1 hR hF.2)
    clear hR
    go_simp
    try (unfold stored; go_simp)
    try go_ints
    refine hK _ _ y1 (by rw [listed_nil (by simp [go_sem, *])]; exact hT.idle _ _) ?_
    clear hK K
    try walk_nrm
    repeat (first | refine t_seq hT ?_ | refine t_block hT ?_ | refine t_skip hT ?_ | refine t_inBlock hT ?_ | refine t_rend hT ?_ | refine t_exit hT rfl ?_)
    refine t_region hT [0, 1, 2, 3, 4, 5, 6, 7, 8, 9] rfl ?_
    refine t_op hT rfl (by rfl) (by first | decide | assumption) (by first | rfl | (rw [hro]; rfl)) (fun _ hR K hK => ?_)
    replace hF := And.intro (hF.1.rely hR) (rdA_rely hs1 hR hF.2)
    clear hR
    go_simp
    try (unfold stored; go_simp)
    try go_ints
    refine hK _ _ y1 (by rw [listed_nil (by simp [go_sem, *])]; exact hT.idle _ _) ?_
    clear hK K
    try walk_nrm
    refine t_op hT rfl (by rfl) (by first | decide | assumption) (by first | rfl | (rw [hro]; rfl)) (fun _ hR K hK => ?_)
    replace hF := And.intro (hF.1.rely hR) (rdA_rely hs1 hR hF.2)
    clear hR
    go_simp
    try (unfold stored; go_simp)
    try go_ints
    refine hK _ _ y1 (by rw [listed_nil (by simp [go_sem, *])]; exact hT.idle _ _) ?_
    clear hK K
    try walk_nrm
    refine t_op hT rfl (by rfl) (by first | decide | assumption) (by first | rfl | (rw [hro]; rfl)) (fun _ hR K hK => ?_)
    replace hF := And.intro (hF.1.rely hR) (rdA_rely hs1 hR hF.2)
    clear hR
    go_simp
    try (unfold stored; go_simp)
    try go_ints
    refine hK _ _ y1 (by rw [listed_nil (by simp [go_sem, *])]; exact hT.idle _ _) ?_
    clear hK K
    try walk_nrm
    refine t_un hT rfl (by rfl) ?_
    try walk_nrm
    refine t_un hT rfl (by rfl) ?_
    try walk_nrm
    refine t_un hT rfl (by rfl) ?_
    try walk_nrm
    refine t_un hT rfl (by rfl) ?_
    try walk_nrm
    refine t_un hT rfl (by rfl) ?_
    try walk_nrm
    refine t_op hT rfl (by rfl) (by first | decide | assumption) (by first | rfl | (rw [hro]; rfl)) (fun _ hR K hK => ?_)
    replace hF := And.intro (hF.1.rely hR) (rdA_rely hs1 hR hF.2)
    clear hR
    go_simp
    try (unfold stored; go_simp)
    try go_ints
    refine hK _ _ y1 (by rw [listed_nil (by simp [go_sem, *])]; exact hT.idle _ _) ?_
    clear hK K
    try walk_nrm
    refine t_op hT rfl (by rfl) (by first | decide | assumption) (by first | rfl | (rw [hro]; rfl)) (fun _ hR K hK => ?_)
    replace hF := And.intro (hF.1.rely hR) (rdA_rely hs1 hR hF.2)
    clear hR
    go_simp
    try (unfold stored; go_simp)
    try go_ints
    refine hK _ _ y1 (by rw [listed_nil (by simp [go_sem, *])]; exact hT.idle _ _) ?_
    clear hK K
    try walk_nrm
    repeat (first | refine t_seq hT ?_ | refine t_block hT ?_ | refine t_skip hT ?_ | refine t_inBlock hT ?_ | refine t_rend hT ?_ | refine t_exit hT rfl ?_)
    refine t_ret hT rfl rfl rfl Try.func24 (resultsC_tmp (by rfl) _) (hc _ _ _ ?_)
    exact ⟨by simp [H0.out], hF.1⟩
  · have H0 := hid h0
    obtain ⟨ad, rfl, _⟩ := hF.2 0 (by rcases hl : (behindL f g).length with _ | k; exact absurd (List.eq_nil_of_length_eq_zero hl) h0; omega)
    clear h0 hnil
    refine t_op hT rfl (by rfl) (by first | decide | assumption) (by first | rfl | (rw [hro]; rfl)) (fun _ hR K hK => ?_)
    replace hF := And.intro (hF.1.rely hR) (rdA_rely hs1 hR hF.2)
    clear hR
    go_simp
    try (unfold stored; go_simp)
    try go_ints
    refine hK _ _ y1 (by rw [listed_nil (by simp [go_sem, *])]; exact hT.idle _ _) ?_
    clear hK K
    try walk_nrm
    repeat (first | refine t_seq hT ?_ | refine t_block hT ?_ | refine t_skip hT ?_ | refine t_inBlock hT ?_ | refine t_rend hT ?_ | refine t_exit hT rfl ?_)
    refine t_region hT [0, 1, 2, 3, 4, 5, 6, 7, 8, 9] rfl ?_
    refine t_op hT rfl (by rfl) (by first | decide | assumption) (by first | rfl | (rw [hro]; rfl)) (fun _ hR K hK => ?_)
    replace hF := And.intro (hF.1.rely hR) (rdA_rely hs1 hR hF.2)
    clear hR
    go_simp
    try (unfold stored; go_simp)
    try go_ints
    refine hK _ _ y1 (by rw [listed_nil (by simp [go_sem, *])]; exact hT.idle _ _) ?_
    clear hK K
    try walk_nrm
    refine t_op hT rfl (by rfl) (by first | decide | assumption) (by first | rfl | (rw [hro]; rfl)) (fun _ hR K hK => ?_)
    replace hF := And.intro (hF.1.rely hR) (rdA_rely hs1 hR hF.2)
    clear hR
    go_simp
    try (unfold stored; go_simp)
    try go_ints
    refine hK _ _ y1 (by rw [listed_nil (by simp [go_sem, *])]; exact hT.idle _ _) ?_
    clear hK K
    try walk_nrm
    refine t_op hT rfl (by rfl) (by first | decide | assumption) (by first | rfl | (rw [hro]; rfl)) (fun _ hR K hK => ?_)
    replace hF := And.intro (hF.1.rely hR) (rdA_rely hs1 hR hF.2)
    clear hR
    go_simp
    try (unfold stored; go_simp)
    try go_ints
    refine hK _ _ y1 (by rw [listed_nil (by simp [go_sem, *])]; exact hT.idle _ _) ?_
    clear hK K
    try walk_nrm
    refine t_op hT rfl (by rfl) (by first | decide | assumption) (by first | rfl | (rw [hro]; rfl)) (fun _ hR K hK => ?_)
    replace hF := And.intro (hF.1.rely hR) (rdA_rely hs1 hR hF.2)
    clear hR
    go_simp
    try (unfold stored; go_simp)
    try go_ints
    refine hK _ _ y1 (by rw [listed_nil (by simp [go_sem, *])]; exact hT.idle _ _) ?_
    clear hK K
    try walk_nrm
    refine t_op hT rfl (by rfl) (by first | decide | assumption) (by first | rfl | (rw [hro]; rfl)) (fun _ hR K hK => ?_)
    replace hF := And.intro (hF.1.rely hR) (rdA_rely hs1 hR hF.2)
    clear hR
    go_simp
    try (unfold stored; go_simp)
    try go_ints
    refine hK _ _ y1 (by rw [listed_nil (by simp [go_sem, *])]; exact hT.idle _ _) ?_
    clear hK K
    try walk_nrm
    refine t_op hT rfl (by rfl) (by first | decide | assumption) (by first | rfl | (rw [hro]; rfl)) (fun _ hR K hK => ?_)
    replace hF := And.intro (hF.1.rely hR) (rdA_rely hs1 hR hF.2)
    clear hR
    go_simp
    try (unfold stored; go_simp)
    try go_ints
    refine hK _ _ y1 (by rw [listed_nil (by simp [go_sem, *])]; exact hT.idle _ _) ?_
    clear hK K
    try walk_nrm
    refine t_call hT rfl (by rfl) (by decide) rfl rfl Try.func25 (by rfl) rfl (by walk_nrm; exact behindOf_g hT _ _ _ _ g f (rdA_rely hS2 hF.1.rg hA2) (fun ad e => (hS2 ad e).imp (hsub _) id) (rdA_rely hS hF.1.rg hA) (fun ad e => (hS ad e).imp (hsub _) id) hm hn hF.1.bd) ?_
    rintro _ y2 w2 ⟨A2, c2, rfl, hr2, hs2, gw, _⟩
    have hs1' : Sees y2 S (some ad) := fun ad e => (hs1 ad e).imp (gw.sub _) id
    replace hF := And.intro (hF.1.trans gw) (And.intro (rdA_rely hs1 gw.rg hF.2) hr2)
    clear hr2 gw
    try walk_nrm
    refine t_call hT rfl (by rfl) (by decide) rfl rfl Try.func43 (by rfl) rfl (by walk_nrm; exact equal_g hT _ _ _ _ (behindL f g) (behindL g f) hF.2.1 hs1' hF.2.2 hs2 (behindL_le hn) (behindL_le hm)) ?_
    rintro _ _ _ ⟨rfl, rfl, hG⟩
    replace hF := And.intro (hF.1.rely hG) (And.intro (rdA_rely hs1' hG hF.2.1) (rdA_rely hs2 hG hF.2.2))
    clear hG
    try walk_nrm
    refine t_op hT rfl (by rfl) (by first | decide | assumption) (by first | rfl | (rw [hro]; rfl)) (fun _ hR K hK => ?_)
    replace hF := And.intro (hF.1.rely hR) (And.intro (rdA_rely hs1' hR hF.2.1) (rdA_rely hs2 hR hF.2.2))
    clear hR
    go_simp
    try (unfold stored; go_simp)
    try go_ints
    refine hK _ _ y2 (by rw [listed_nil (by simp [go_sem, *])]; exact hT.idle _ _) ?_
    clear hK K
    try walk_nrm
    refine t_op hT rfl (by rfl) (by first | decide | assumption) (by first | rfl | (rw [hro]; rfl)) (fun _ hR K hK => ?_)
    replace hF := And.intro (hF.1.rely hR) (And.intro (rdA_rely hs1' hR hF.2.1) (rdA_rely hs2 hR hF.2.2))
    clear hR
    go_simp
    try (unfold stored; go_simp)
    try go_ints
    refine hK _ _ y2 (by rw [listed_nil (by simp [go_sem, *])]; exact hT.idle _ _) ?_
    clear hK K
    try walk_nrm
    repeat (first | refine t_seq hT ?_ | refine t_block hT ?_ | refine t_skip hT ?_ | refine t_inBlock hT ?_ | refine t_rend hT ?_ | refine t_exit hT rfl ?_)
    refine t_ret hT rfl rfl rfl Try.func24 (resultsC_tmp (by rfl) _) (hc _ _ _ ?_)
    exact ⟨by simp [H0.out], hF.1⟩

set_option maxHeartbeats 4000000 in
theorem allWith1_g (hT : Clo Try.prog main (RG ty Wg S) (DG main Wg S) T) (A : Option Addr) (c : Nat) (xs : List Int) (hA : RdA w A xs) (hS : Sees y S A) (hn : xs.length ≤ 1048577) (hB : Bd S y w)
    (bx : Addr) (hbS : S bx.block) (F : Option Addr) (cf : Nat) (f : List Int) (hbox : w.cell? bx = some (.slice F f.length cf)) (hf : RdA w F f) (hfS : ∀ ad, F = some ad → S ad.block) (hnf : f.length ≤ 1048577) :
    CallsT Try.prog T 46 #[.slice A xs.length c, .pointer (some bx)] y w fun v y' w' => v = .bool (decide (behindL f xs ≠ [] ∧ behindL f xs = behindL xs f)) ∧ Gw ty Wg S y w y' w' := by
  have hSf : Sees y S F := fun ad e => .inr (hfS ad e)
  refine callsT_of Try.func46 rfl fun fr cs hc => ?_
  simp only [Try.ntmps46, List.size_toArray, List.length_cons, List.length_nil, Nat.reduceAdd, Nat.reduceSub, Array.replicate_succ, Array.replicate_zero, List.push_toArray, List.append_toArray, List.nil_append, List.cons_append]
  have hF : RG ty Wg S y w w := RM.refl w
  repeat (first | refine t_seq hT ?_ | refine t_block hT ?_ | refine t_skip hT ?_ | refine t_inBlock hT ?_ | refine t_rend hT ?_ | refine t_exit hT rfl ?_)
  refine t_region hT [0] rfl ?_
  refine t_op hT rfl (by rfl) (by first | decide | assumption) (by first | rfl | (rw [hro]; rfl)) (fun _ hR K hK => ?_)
  replace hF := hF.trans hR
  clear hR
  go_simp
  try (unfold stored; go_simp)
  try go_ints
  refine hK _ _ y (by rw [listed_nil (by simp [go_sem, *])]; exact hT.idle _ _) ?_
  clear hK K
  try walk_nrm
  repeat (first | refine t_seq hT ?_ | refine t_block hT ?_ | refine t_skip hT ?_ | refine t_inBlock hT ?_ | refine t_rend hT ?_ | refine t_exit hT rfl ?_)
  refine t_region hT [0, 1, 2, 3] rfl ?_
  refine t_op hT rfl (by rfl) (by first | decide | assumption) (by first | rfl | (rw [hro]; rfl)) (fun _ hR K hK => ?_)
  replace hF := hF.trans hR
  clear hR
  have hce := (cell_rely (.inr hbS) hF).trans hbox
  go_simp
  try (unfold stored; go_simp)
  try go_ints
  refine hK _ _ y (dg_reads ?_) ?_
  · co_evs (exact evm_read (.inr hbS))
  clear hK K
  try walk_nrm
  refine t_op hT rfl (by rfl) (by first | decide | assumption) (by first | rfl | (rw [hro]; rfl)) (fun _ hR K hK => ?_)
  replace hF := hF.trans hR
  clear hR
  go_simp
  try (unfold stored; go_simp)
  try go_ints
  refine hK _ _ y (by rw [listed_nil (by simp [go_sem, *])]; exact hT.idle _ _) ?_
  clear hK K
  try walk_nrm
  refine t_call hT rfl (by rfl) (by decide) rfl rfl Try.func24 (by rfl) rfl (by walk_nrm; exact withOk_g hT _ _ _ _ f xs (rdA_rely hSf hF hf) hSf (rdA_rely hS hF hA) hS hnf hn (hB.rely hF)) ?_
  rintro _ y1 w1 ⟨rfl, gw⟩
  replace hF := (Gw.of_rg hB hF).trans gw
  clear gw
  try walk_nrm
  refine t_op hT rfl (by rfl) (by first | decide | assumption) (by first | rfl | (rw [hro]; rfl)) (fun _ hR K hK => ?_)
  replace hF := hF.rely hR
  clear hR
  go_simp
  try (unfold stored; go_simp)
  try go_ints
  refine hK _ _ y1 (by rw [listed_nil (by simp [go_sem, *])]; exact hT.idle _ _) ?_
  clear hK K
  try walk_nrm
  repeat (first | refine t_seq hT ?_ | refine t_block hT ?_ | refine t_skip hT ?_ | refine t_inBlock hT ?_ | refine t_rend hT ?_ | refine t_exit hT rfl ?_)
  refine t_ret hT rfl rfl rfl Try.func46 (resultsC_tmp (by rfl) _) (hc _ _ _ ?_)
  exact ⟨by simp, hF⟩
end

end Go.Proofs.Ytkbfcaaihellfaa

/- Walks in company: mapsFrom; the rules of a range over a function in a family; a worker's family; a worker's send. -/
namespace Go.Proofs.Ytkbfcaaihellfaa
open Go.Conc Go.ConcN Go.RowKit
set_option linter.unusedVariables false
set_option linter.unusedSectionVars false

section
variable [Go.ConcR.Payload] {main : Bool} {ty : TypeId} {Wg : Nat} {S : Nat → Prop} {T : Gh → Goroutine → World → Prop} {y y0 : Gh} {w w0 w1 : World}
theorem gw_new (o : Obj) (h : Gw ty Wg S y0 w0 y w) : ∃ y', DG main Wg S y w (w.alloc o) #[] y' ∧ Gw ty Wg S y0 w0 y' (w.alloc o) ∧ Gw ty Wg S y w y' (w.alloc o) ∧ y'.1 w.heap.size ∧ (w.alloc o).heap[w.heap.size]? = some o ∧ ¬ (y.1 w.heap.size ∨ S w.heap.size) :=
  ⟨_, dg_alloc o, h.trans (gw_alloc h.bd o), gw_alloc h.bd o, .inr ⟨Nat.le_refl _, by rw [alloc_size]; omega⟩, Array.getElem?_push_size, fun e => Nat.lt_irrefl _ (h.bd _ e)⟩
theorem cell_of_heap {b k : Nat} {cs : Array Value} {t : TypeId} {f : Nat × Nat} {v : Value} (h : w.heap[b]? = some (.cells cs t f)) (hv : cs[k]? = some v) : w.cell? ⟨b, k, none⟩ = some v := by
  simp [World.cell?, h, hv]
theorem run_box (v : Value) (hv : v.oneCell' = true) (w : World) (t : TypeId) : (Instr.box t v).run Try.prog w = .ok (.pointer (some ⟨w.heap.size, 0, none⟩)) (w.alloc (.cells #[v] t)) := by
  cases v <;> simp_all [Instr.box, go_sem, Value.oneCell']
set_option maxHeartbeats 1000000 in
theorem mapsFrom_g (hT : Clo Try.prog main (RG ty Wg S) (DG main Wg S) T) (n f : Int) (hB : Bd S y w) :
    CallsT Try.prog T 60 #[.int .i64 n, .int .i64 f] y w fun v y' w' => ∃ b2 b3, v = .func (.func 84) #[] #[.pointer (some ⟨b2, 0, none⟩), .pointer (some ⟨b3, 0, none⟩)] ∧ y'.1 b2 ∧ y'.1 b3 ∧ w'.heap[b2]? = some (.cells #[.int .i64 n] 3) ∧ w'.heap[b3]? = some (.cells #[.int .i64 f] 3) ∧ Gw ty Wg S y w y' w' := by
  refine callsT_of Try.func60 rfl fun fr cs hc => ?_
  simp only [Try.ntmps60, List.size_toArray, List.length_cons, List.length_nil, Nat.reduceAdd, Nat.reduceSub, Array.replicate_succ, Array.replicate_zero, List.push_toArray, List.append_toArray, List.nil_append, List.cons_append]
  have hF : Gw ty Wg S y w y w := Gw.refl hB
  repeat (first | refine t_seq hT ?_ | refine t_block hT ?_ | refine t_skip hT ?_ | refine t_inBlock hT ?_ | refine t_rend hT ?_ | refine t_exit hT rfl ?_)
  refine t_region hT [0, 1, 2] rfl ?_
  refine t_op hT rfl (by rfl) (by first | decide | assumption) (by first | rfl | (rw [hro]; rfl)) (fun w₁ hR K hK => ?_)
  replace hF := hF.rely hR
  clear hR
  go_simp
  obtain ⟨y1, hdg, gw, gw1, hm1, hh1, hn1⟩ := gw_new (main := main) (.cells #[.int .i64 n] 3) hF
  refine hK _ _ y1 (by rw [listed_nil (by simp [go_sem])]; exact hdg) ?_
  clear hK K hdg gw1
  try walk_nrm
  generalize w₁.heap.size = b2 at *
  generalize w₁.alloc (.cells #[.int .i64 n] 3) = W1 at *
  replace hF := And.intro gw hh1
  clear gw hh1
  refine t_op hT rfl (by rfl) (by first | decide | assumption) (by first | rfl | (rw [hro]; rfl)) (fun w₁ hR K hK => ?_)
  replace hF := And.intro (hF.1.rely hR) ((hR.keep b2 (.inl hm1)).trans hF.2)
  clear hR
  go_simp
  obtain ⟨y2, hdg, gw, gw1, hm2, hh2, hn2⟩ := gw_new (main := main) (.cells #[.int .i64 f] 3) hF.1
  refine hK _ _ y2 (by rw [listed_nil (by simp [go_sem])]; exact hdg) ?_
  replace hF := And.intro gw (And.intro ((gw1.rg.keep b2 (.inl hm1)).trans hF.2) hh2)
  replace hm1 := gw1.sub _ hm1
  clear hK K hdg gw gw1 hh2
  try walk_nrm
  generalize w₁.heap.size = b3 at *
  generalize w₁.alloc (.cells #[.int .i64 f] 3) = W2 at *
  refine t_op hT rfl (by rfl) (by first | decide | assumption) (by first | rfl | (rw [hro]; rfl)) (fun _ hR K hK => ?_)
  replace hF := And.intro (hF.1.rely hR) (And.intro ((hR.keep b2 (.inl hm1)).trans hF.2.1) ((hR.keep b3 (.inl hm2)).trans hF.2.2))
  clear hR
  go_simp
  try (unfold stored; go_simp)
  try go_ints
  refine hK _ _ y2 (by rw [listed_nil (by simp [go_sem, *])]; exact hT.idle _ _) ?_
  clear hK K
  try walk_nrm
  repeat (first | refine t_seq hT ?_ | refine t_block hT ?_ | refine t_skip hT ?_ | refine t_inBlock hT ?_ | refine t_rend hT ?_ | refine t_exit hT rfl ?_)
  refine t_region hT [0, 1] rfl ?_
  refine t_op hT rfl (by rfl) (by first | decide | assumption) (by first | rfl | (rw [hro]; rfl)) (fun w₁ hR K hK => ?_)
  replace hF := And.intro (hF.1.rely hR) (And.intro ((hR.keep b2 (.inl hm1)).trans hF.2.1) ((hR.keep b3 (.inl hm2)).trans hF.2.2))
  clear hR
  go_simp
  refine hK _ _ y2 (by rw [listed_nil (by simp [go_sem, Instr.makeFunc])]; exact hT.idle _ _) ?_
  clear hK K
  try walk_nrm
  refine t_op hT rfl (by rfl) (by first | decide | assumption) (by first | rfl | (rw [hro]; rfl)) (fun _ hR K hK => ?_)
  replace hF := And.intro (hF.1.rely hR) (And.intro ((hR.keep b2 (.inl hm1)).trans hF.2.1) ((hR.keep b3 (.inl hm2)).trans hF.2.2))
  clear hR
  go_simp
  try (unfold stored; go_simp)
  try go_ints
  refine hK _ _ y2 (by rw [listed_nil (by simp [go_sem, *])]; exact hT.idle _ _) ?_
  clear hK K
  try walk_nrm
  repeat (first | refine t_seq hT ?_ | refine t_block hT ?_ | refine t_skip hT ?_ | refine t_inBlock hT ?_ | refine t_rend hT ?_ | refine t_exit hT rfl ?_)
  refine t_ret hT rfl rfl rfl Try.func60 (resultsC_tmp (by rfl) _) (hc _ _ _ ?_)
  exact ⟨b2, b3, by simp, hm1, hm2, hF.2.1, hF.2.2, hF.1⟩

/-- .. or its object l has turned -/
structure Gy (ty : TypeId) (Wg : Nat) (S : Nat → Prop) (l : Nat) (y : Gh) (w : World) (y' : Gh) (w' : World) : Prop where
  keep : ∀ b, y.1 b ∨ S b → b ≠ l → w'.heap[b]? = w.heap[b]?
  size : w.heap.size ≤ w'.heap.size
  live : WgLive ty Wg w → WgLive ty Wg w'
  sub : ∀ b, y.1 b → y'.1 b
  bd : Bd S y' w'
section
variable {l : Nat} {y1 y2 : Gh} {w2 : World}
theorem Gy.refl (h : Bd S y w) : Gy ty Wg S l y w y w := ⟨fun _ _ _ => rfl, Nat.le_refl _, id, fun _ h => h, h⟩
theorem Gy.trans (g : Gy ty Wg S l y w y1 w1) (k : Gy ty Wg S l y1 w1 y2 w2) : Gy ty Wg S l y w y2 w2 :=
  ⟨fun b hb hl => (k.keep b (hb.imp (g.sub b) id) hl).trans (g.keep b hb hl), Nat.le_trans g.size k.size, k.live ∘ g.live, fun b h => k.sub b (g.sub b h), k.bd⟩
theorem Gy.of_gw (g : Gw ty Wg S y w y1 w1) : Gy ty Wg S l y w y1 w1 := ⟨fun b hb _ => g.rg.keep b hb, g.rg.size, g.rg.live, g.sub, g.bd⟩
theorem Gy.rely (g : Gy ty Wg S l y w y1 w1) (r : RG ty Wg S y1 w1 w2) : Gy ty Wg S l y w y1 w2 := g.trans (.of_gw (Gw.of_rg g.bd r))
theorem live_setO {lp : Loop} {o : Obj} (hl : w.heap[l]? = some (.loop lp)) (h : WgLive ty Wg w) : WgLive ty Wg (setO w l o) := by
  have hne : Wg ≠ l := fun e => by
    obtain ⟨st, sm, h1⟩ := h
    subst e
    have h2 : w.heap[Wg]? = _ := h1
    rw [hl] at h2
    cases h2
  exact live_heap (setO_ne hne) h
theorem Gy.setO {lp : Loop} {o : Obj} (hB : Bd S y w) (hl : w.heap[l]? = some (.loop lp)) : Gy ty Wg S l y w y (setO w l o) :=
  ⟨fun b _ hb => setO_ne hb, by rw [setO_size]; exact Nat.le_refl _, live_setO hl, fun _ h => h, fun b hb => by rw [setO_size]; exact hB b hb⟩
theorem dg_setO {o : Obj} {es : Array Event} (hm : y.1 l) (he : EvO l es) : DG main Wg S y w (setO w l o) es y :=
  ⟨⟨fun b hb _ => setO_ne fun e => hb (by rw [e]; exact hm), by rw [setO_size]; exact Nat.le_refl _, rfl, rfl, rfl, fun e h => .inl (.inr (.inl ⟨l, (he e h).1, (he e h).2, hm⟩))⟩, by rw [more_same setO_size]⟩
end

section
variable {P : Program} {b : Frame} {a : Act} {k : List Item} {cs : List Frame} {ops : Array Oper} {l r f : Nat} {tmps : Array Value} {params : Array Tmp} {assign body : Code} {y1 : Gh}
theorem t_begin (hT : Clo P main (RG ty Wg S) (DG main Wg S) T) (hro : b.roundOf = some l) (hk : b.kind ≠ .early) (hm : y.1 l) (hl : w.heap[l]? = some (loopAt f tmps params assign body r))
    (h : ∀ w₁, RG ty Wg S y w w₁ → w₁.heap[l]? = some (loopAt f tmps params assign body r) → T y (G (b.atR a k) cs) (setO w₁ l (loopBusy f tmps params assign body r))) : T y (G (b.atR a (.beginRound :: k)) cs) w :=
  hT.step rfl fun w₁ hr => by
    have hl' := (hr.keep l (.inl hm)).trans hl
    obtain ⟨es, he, hs⟩ := sG_begin (P := P) (main := main) (b := b) (a := a) (k := k) (cs := cs) hro hk hl'
    exact ⟨_, _, es, y, hs, dg_setO hm he, h w₁ hr hl'⟩
theorem t_endRound (hT : Clo P main (RG ty Wg S) (DG main Wg S) T) {c : Frame} (hro : b.roundOf = some l) (hk : b.kind = .normal) (hm : y.1 l) (hl : w.heap[l]? = some (loopBusy f tmps params assign body r))
    (h : ∀ w₁, RG ty Wg S y w w₁ → w₁.heap[l]? = some (loopBusy f tmps params assign body r) → T y (G (c.finish (.bool true)) cs) (setO w₁ l (loopAt f tmps params assign body r))) : T y (G (b.atR a []) (c :: cs)) w :=
  hT.step rfl fun w₁ hr => by
    have hl' := (hr.keep l (.inl hm)).trans hl
    obtain ⟨es, he, hs⟩ := sG_endRound (P := P) (main := main) (b := b) (a := a) (c := c) (cs := cs) hro hk hl'
    exact ⟨_, _, es, y, hs, dg_setO hm he, h w₁ hr hl'⟩
theorem t_endRange (hT : Clo P main (RG ty Wg S) (DG main Wg S) T) (hm : y.1 l) (hl : w.heap[l]? = some (loopAt f tmps params assign body r))
    (h : ∀ w₁, RG ty Wg S y w w₁ → w₁.heap[l]? = some (loopAt f tmps params assign body r) → T y (G (b.atR a k) cs) (setO w₁ l (loopOver f tmps params assign body r))) : T y (G (b.atR a (.endRangeFunc l :: k)) cs) w :=
  hT.step rfl fun w₁ hr => by
    have hl' := (hr.keep l (.inl hm)).trans hl
    obtain ⟨es, he, hs⟩ := sG_endRange (P := P) (main := main) (b := b) (a := a) (k := k) (cs := cs) hl'
    exact ⟨_, _, es, y, hs, dg_setO hm he, h w₁ hr hl'⟩
theorem t_take (hT : Clo P main (RG ty Wg S) (DG main Wg S) T) {todo : List Item} {ds : List Deferred} (hro : b.roundOf = none) (hd : a.defers = ⟨.collected r, #[]⟩ :: ds) (hm : y.1 r) (hl : w.heap[r]? = some (.deferred (some [])))
    (h : ∀ w₁, RG ty Wg S y w w₁ → w₁.heap[r]? = some (.deferred (some [])) → T y (G { b.atR ⟨a.tmps, ds⟩ todo with mode := .returning } cs) (setO w₁ r (.deferred none))) : T y (G { b.atR a todo with mode := .returning } cs) w :=
  hT.step rfl fun w₁ hr => by
    have hl' := (hr.keep r (.inl hm)).trans hl
    obtain ⟨es, he, hs⟩ := sG_take (P := P) (main := main) (b := b) (a := a) (cs := cs) (todo := todo) hro hd hl'
    exact ⟨_, _, es, y, hs, dg_setO hm he, h w₁ hr hl'⟩
theorem t_yield (hT : Clo P main (RG ty Wg S) (DG main Wg S) T) {i : Nat} {rest : List Nat} {o : Oper} {x z : Operand} {ats : Array TypeId} {p : Tmp} (ho : ops[i]? = some o) (hw : Region.wanted o (yielded ops a.tmps) = true) (hk : b.kind ≠ .early) (hs : o.semAt b.roundOf a.eval = execOp a.eval o)
    (hop : o.op = .call { callee := .value x, args := #[z], argTypes := ats }) (hx : a.eval x = .func (.yield l) #[] #[]) (hm : y.1 l) (hl : w.heap[l]? = some (loopAt f tmps #[p] assign body r))
    (h : ∀ w₁, RG ty Wg S y w w₁ → T y (G (Frame.round l f (tmps.setIfInBounds p (a.eval z)) assign body .normal) (b.atR a (.inRegion ops (i :: rest) :: k) :: cs)) w₁) : T y (G (b.atR a (.inRegion ops (i :: rest) :: k)) cs) w :=
  hT.step rfl fun w₁ hr => by
    have hl' := (hr.keep l (.inl hm)).trans hl
    obtain ⟨h1, h2⟩ := run_yield (P := P) (a := a) hop hx hl'
    refine ⟨_, w₁, _, y, sG_round ho hw hk hs h1, dg_reads fun e he => ?_, h w₁ hr⟩
    have := mem_listed he
    rw [h2] at this
    simp at this
    subst this
    exact .inr (.inl ⟨l, rfl, rfl, hm⟩)
theorem t_rangeFunc (hT : Clo P main (RG ty Wg S) (DG main Wg S) T) {x : Operand} {code : Code} {fid : FuncId} {fn : Func} {cap : Array Value} (hro : b.roundOf = none) (hk : b.kind ≠ .early) (hf : a.eval x = .func (.func fid) #[] cap)
    (hfn : P.funcs[fid]? = some fn) (hname : (fn.name == "runtime.NumGoroutine") = false) (hb : fn.body = some code) (hB : Bd S y w)
    (h : ∀ w₁ y' w' r l, RG ty Wg S y w w₁ → Gw ty Wg S y w₁ y' w' → y'.1 r → y'.1 l → r ≠ l → w'.heap[r]? = some (.deferred (some [])) → w'.heap[l]? = some (loopAt b.fn a.tmps params assign body r) → (∀ b, y.1 b ∨ S b → b ≠ r ∧ b ≠ l) →
      T y' (G (Frame.enter P fid (#[.func (.yield l) #[] #[]] ++ cap) .normal) (b.atR ⟨a.tmps, ⟨.collected r, #[]⟩ :: a.defers⟩ (.inRangeFunc l :: k) :: cs)) w') : T y (G (b.atR a (.code (.rangeFunc x params assign body) :: k)) cs) w :=
  hT.step rfl fun w₁ hr => by
    have g0 := Gw.refl (ty := ty) (Wg := Wg) (hB.rely hr)
    obtain ⟨y1, d1, g1, _, m1, h1, n1⟩ := gw_new (main := main) (.deferred (some [])) g0
    obtain ⟨y2, d2, g2, k2, m2, h2, n2⟩ := gw_new (main := main) (loopAt b.fn a.tmps params assign body w₁.heap.size) g1
    have es : (w₁.alloc (.deferred (some []))).heap.size = w₁.heap.size + 1 := alloc_size
    rw [es] at m2 h2 n2
    have hd : DG main Wg S y w₁ ((w₁.alloc (.deferred (some []))).alloc (loopAt b.fn a.tmps params assign body w₁.heap.size)) #[] y2 := by
      refine ⟨⟨fun b hb hlt => (alloc_get (by rw [es]; omega)).trans (alloc_get hlt), by rw [alloc_size, es]; omega, rfl, rfl, rfl, by simp⟩, ?_⟩
      rw [d2.2, d1.2]
      refine Prod.ext ?_ rfl
      funext b
      simp only [more, alloc_size]
      exact propext ⟨fun h => by rcases h with (h | h) | h; exact .inl h; exact .inr ⟨by omega, by omega⟩; exact .inr ⟨by omega, by omega⟩, fun h => by
        rcases h with h | h
        · exact .inl (.inl h)
        · by_cases e : b < w₁.heap.size + 1
          · exact .inl (.inr ⟨h.1, e⟩)
          · exact .inr ⟨by omega, h.2⟩⟩
    refine ⟨_, _, #[], y2, sG_rangeFunc hro hk hf hfn hname hb, hd, h w₁ y2 _ w₁.heap.size (w₁.heap.size + 1) hr g2 (k2.sub _ m1) m2 (by omega) ((alloc_get (by rw [es]; omega)).trans h1) h2 fun b hb => ?_⟩
    have := (hB.rely hr) b hb
    exact ⟨by omega, by omega⟩
end
end

/-! ### a worker's family -/
section
variable [Go.ConcR.Payload] {P : Program} {ty : TypeId} {Wg C n LW : Nat} {Rw : List Int → Nat → Obj → Value → Prop} {S : Nat → Prop} {c k : Nat}
def TW (P : Program) (ty : TypeId) (Wg C n LW : Nat) (Rw : List Int → Nat → Obj → Value → Prop) (S : Nat → Prop) (c k : Nat) (y : Gh) (g : Goroutine) (w : World) : Prop := WScr P ty Wg C n LW Rw S c k y.2 y.1 g w
theorem clo_way {main : Bool} {Stop : (Nat → Prop) → Goroutine → World → Prop} {M : Nat → Prop} {L : List (List Int)} {g : Goroutine} {w : World} (hs : g.status = .running)
    (h : ∀ w₁, RG ty Wg S (M, L) w w₁ → ∃ g' w' es y', stepG P main g w₁ = .go g' w' es ∧ DG main Wg S (M, L) w₁ w' es y' ∧ ∃ f, Way P main ty Wg S Stop f y'.1 g' w') : ∃ f, Way P main ty Wg S Stop f M g w :=
  Way.step hs fun w₁ r => by
    obtain ⟨g', w', es, y', h1, ⟨h2, rfl⟩, h3⟩ := h w₁ r
    exact ⟨g', w', es, h1, h2, h3⟩
theorem dg_draw {main : Bool} (y : Gh) (w : World) : DG main Wg S y w { w with drawn := w.drawn + 1 } #[] y := ⟨⟨fun _ _ _ => rfl, Nat.le_refl _, rfl, rfl, rfl, by simp⟩, Prod.ext (more_same (w' := { w with drawn := w.drawn + 1 }) rfl).symm rfl⟩
theorem clo_w : Clo P false (RG ty Wg S) (DG false Wg S) (TW P ty Wg C n LW Rw S c k) := by
  refine ⟨fun h r => WScr.rely P ty Wg C n LW Rw h r, fun {y g w} hs h => ?_, fun _ _ => dg_none, dg_draw⟩
  obtain ⟨M, L⟩ := y
  unfold TW at h ⊢
  cases L with
  | nil =>
    refine clo_way (L := []) hs fun w₁ r => ?_
    obtain ⟨g', w', es, y', h1, h2, h3⟩ := h w₁ r
    refine ⟨g', w', es, y', h1, h2, ?_⟩
    rw [h2.2] at h3 ⊢
    exact h3
  | cons xs L =>
    refine clo_way (L := xs :: L) hs fun w₁ r => ?_
    obtain ⟨g', w', es, y', h1, h2, h3⟩ := h w₁ r
    refine ⟨g', w', es, y', h1, h2, ?_⟩
    rw [h2.2] at h3 ⊢
    exact h3
/-- A SEND of a row of its own. -/
theorem t_send {b : Frame} {a : Act} {kk : List Item} {cs : List Frame} {ops : Array Oper} {i : Nat} {rest : List Nat} {o : Oper} {M : Nat → Prop} {L : List (List Int)} {w : World} {xs : List Int} {r : Nat} {v z' : Value}
    (ho : ops[i]? = some o) (hw : Region.wanted o (yielded ops a.tmps) = true) (hk : b.kind ≠ .early) (hs : o.semAt b.roundOf a.eval = execOp a.eval o)
    (hr : ∀ w, (execOp a.eval o).run P w = .ok (.comm #[scase c v z'] true .send) w) (he : ∀ w, (execOp a.eval o).events P w #[] = #[])
    (hM : M r) (hRw : ∀ w₁, RG ty Wg S (M, xs :: L) w w₁ → ∃ ob, w₁.heap[r]? = some ob ∧ Rw xs r ob v)
    (h : ∀ w₁, RG ty Wg S (M, xs :: L) w w₁ → TW P ty Wg C n LW Rw S c k (fun b => M b ∧ b ≠ r, L) (G (b.atR (a.put o.dst undef) (.inRegion ops rest :: kk)) cs) w₁) :
    TW P ty Wg C n LW Rw S c k (M, xs :: L) (G (b.atR a (.inRegion ops (i :: rest) :: kk)) cs) w := by
  refine ⟨.leaf, Way.stop fun w₁ hr₁ => ?_⟩
  obtain ⟨ob, h1, h2⟩ := hRw w₁ hr₁
  refine ⟨rfl, r, ob, v, hM, h1, h2, G (b.atR a (.inRegion ops (i :: rest) :: kk)) cs, z', fun d => ?_, ?_⟩
  · rw [sG_comm ho hw hk hs (hr _)]
    have : listed P b.fn a o (w₁.at d) = #[] := by unfold listed; rw [he]; exact seen_none P _
    rw [this]
  · have hfin : Go.Conc.served (G (b.atR a (.inRegion ops (i :: rest) :: kk)) cs) undef = G (b.atR (a.put o.dst undef) (.inRegion ops rest :: kk)) cs := by
      simp only [Go.Conc.served, G, Frame.finish_atR, ho]; rfl
    rw [hfin]
    exact h w₁ hr₁
end

end Go.Proofs.Ytkbfcaaihellfaa
