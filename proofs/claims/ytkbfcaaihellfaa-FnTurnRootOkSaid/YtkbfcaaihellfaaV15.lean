/- Steps on the way to the law; each part says what it proves. -/
import Derived.Test.YtkbfcaaihellfaaV14
import Derived.Test.YtkbfcaaihellfaaV1
import Derived.Conc.DeferLaws

set_option linter.unusedSimpArgs false

/- Walks in company: the tests that RootsOf and AllWith hand to mapsThat. -/
namespace Go.Proofs.Ytkbfcaaihellfaa
open Go.Conc Go.ConcN Go.RowKit
set_option linter.unusedVariables false
set_option linter.unusedSectionVars false

section
variable [Go.ConcR.Payload] {main : Bool} {ty : TypeId} {Wg : Nat} {S : Nat → Prop} {T : Gh → Goroutine → World → Prop} {y : Gh} {w : World}
set_option maxHeartbeats 8000000 in
theorem rootsOf1_g (hT : Clo Try.prog main (RG ty Wg S) (DG main Wg S) T) (A : Option Addr) (c : Nat) (xs : List Int) (hA : RdA w A xs) (hS : Sees y S A) (hn : xs.length ≤ 1048577) (hB : Bd S y w)
    (bx : Addr) (hbS : S bx.block) (F : Option Addr) (nf cf : Nat) (f : List Int) (hbox : w.cell? bx = some (.slice F f.length cf)) (hf : RdA w F f) (hfS : ∀ ad, F = some ad → S ad.block) (hnf : f.length ≤ 1048577) :
    CallsT Try.prog T 42 #[.slice A xs.length c, .pointer (some bx)] y w fun v y' w' => v = .bool (decide (behindL xs xs = f)) ∧ Gw ty Wg S y w y' w' := by
  have hSf : Sees y S F := fun ad e => .inr (hfS ad e)
  have hbl : (behindL xs xs).length ≤ 1048577 := by
    unfold behindL
    split
    · rw [mk_len]; exact hn
    · simp
  refine callsT_of Try.func42 rfl fun fr cs hc => ?_
  simp only [Try.ntmps42, List.size_toArray, List.length_cons, List.length_nil, Nat.reduceAdd, Nat.reduceSub, Array.replicate_succ, Array.replicate_zero, List.push_toArray, List.append_toArray, List.nil_append, List.cons_append]
  have hF : RG ty Wg S y w w := RM.refl w
  repeat (first | refine t_seq hT ?_ | refine t_block hT ?_ | refine t_skip hT ?_ | refine t_inBlock hT ?_ | refine t_rend hT ?_ | refine t_exit hT rfl ?_)
  refine t_region hT [0] rfl ?_
  refine t_op hT rfl (by rfl) (by first | decide | assumption) (by first | rfl | (rw [hro]; rfl)) (fun _ hR K hK => ?_)
  replace hF := hF.trans hR
  clear hR
  go_simp
  try (unfold stored; go_simp)
  try go_ints
  refine hK _ _ y (by rw [listed_nil (by simp [go_sem, *])]; exact hT.idle _ _) ?_
  clear hK K
  try walk_nrm
  repeat (first | refine t_seq hT ?_ | refine t_block hT ?_ | refine t_skip hT ?_ | refine t_inBlock hT ?_ | refine t_rend hT ?_ | refine t_exit hT rfl ?_)
  refine t_drawL hT (by first | kernel_rfl | rfl) (L := [[0, 1, 2, 3, 4, 5], [0, 1, 3, 2, 4, 5], [0, 3, 1, 2, 4, 5], [1, 0, 2, 3, 4, 5], [1, 0, 3, 2, 4, 5], [1, 3, 0, 2, 4, 5], [3, 0, 1, 2, 4, 5], [3, 1, 0, 2, 4, 5]]) (by decide +kernel) (fun w₁ hR l hl => ?_)
  replace hF : RG ty Wg S y w { w₁ with drawn := w₁.drawn + 1 } := (hF.trans hR).trans ⟨fun _ _ => rfl, Nat.le_refl _, id⟩
  clear hR
  simp only [List.mem_cons, List.not_mem_nil, or_false] at hl
  rcases hl with rfl | rfl | rfl | rfl | rfl | rfl | rfl | rfl
  · skip
    refine t_op hT rfl (by rfl) (by first | decide | assumption) (by first | rfl | (rw [hro]; rfl)) (fun _ hR K hK => ?_)
    replace hF := hF.trans hR
    clear hR
    go_simp
    try (unfold stored; go_simp)
    try go_ints
    refine hK _ _ y (by rw [listed_nil (by simp [go_sem, *])]; exact hT.idle _ _) ?_
    clear hK K
    try walk_nrm
    refine t_op hT rfl (by rfl) (by first | decide | assumption) (by first | rfl | (rw [hro]; rfl)) (fun _ hR K hK => ?_)
    replace hF := hF.trans hR
    clear hR
    go_simp
    try (unfold stored; go_simp)
    try go_ints
    refine hK _ _ y (by rw [listed_nil (by simp [go_sem, *])]; exact hT.idle _ _) ?_
    clear hK K
    try walk_nrm
    refine t_call hT rfl (by rfl) (by decide) rfl rfl Try.func25 (by rfl) rfl (by walk_nrm; exact behindOf_g hT _ _ _ _ xs xs (rdA_rely hS hF hA) hS (rdA_rely hS hF hA) hS hn hn (hB.rely hF)) ?_
    rintro _ y1 w1 ⟨A1, c1, rfl, hr1, hs1, gw, _⟩
    replace hF := And.intro ((Gw.of_rg hB hF).trans gw) hr1
    clear hr1 gw
    have hsub := hF.1.sub
    try walk_nrm
    refine t_op hT rfl (by rfl) (by first | decide | assumption) (by first | rfl | (rw [hro]; rfl)) (fun _ hR K hK => ?_)
    replace hF := And.intro (hF.1.rely hR) (rdA_rely hs1 hR hF.2)
    clear hR
    have hce := (cell_rely (.inr hbS) hF.1.rg).trans hbox
    go_simp
    try (unfold stored; go_simp)
    try go_ints
    refine hK _ _ y1 (dg_reads ?_) ?_
    · co_evs (exact evm_read (.inr hbS))
    clear hK K
    try walk_nrm
    clear hce
    refine t_call hT rfl (by rfl) (by decide) rfl rfl Try.func43 (by rfl) rfl (by walk_nrm; exact equal_g hT _ _ _ _ (behindL xs xs) f hF.2 hs1 (rdA_rely hSf hF.1.rg hf) (fun ad e => .inr (hfS ad e)) hbl hnf) ?_
    rintro _ _ _ ⟨rfl, rfl, hG⟩
    replace hF := And.intro (hF.1.rely hG) (rdA_rely hs1 hG hF.2)
    clear hG
    try walk_nrm
    refine t_op hT rfl (by rfl) (by first | decide | assumption) (by first | rfl | (rw [hro]; rfl)) (fun _ hR K hK => ?_)
    replace hF := And.intro (hF.1.rely hR) (rdA_rely hs1 hR hF.2)
    clear hR
    go_simp
    try (unfold stored; go_simp)
    try go_ints
    refine hK _ _ y1 (by rw [listed_nil (by simp [go_sem, *])]; exact hT.idle _ _) ?_
    clear hK K
    try walk_nrm
    repeat (first | refine t_seq hT ?_ | refine t_block hT ?_ | refine t_skip hT ?_ | refine t_inBlock hT ?_ | refine t_rend hT ?_ | refine t_exit hT rfl ?_)
    refine t_ret hT rfl rfl rfl Try.func42 (resultsC_tmp (by rfl) _) (hc _ _ _ ?_)
    exact ⟨by simp, hF.1⟩
  · skip
    refine t_op hT rfl (by rfl) (by first | decide | assumption) (by first | rfl | (rw [hro]; rfl)) (fun _ hR K hK => ?_)
    replace hF := hF.trans hR
    clear hR
    go_simp
    try (unfold stored; go_simp)
    try go_ints
    refine hK _ _ y (by rw [listed_nil (by simp [go_sem, *])]; exact hT.idle _ _) ?_
    clear hK K
    try walk_nrm
    refine t_op hT rfl (by rfl) (by first | decide | assumption) (by first | rfl | (rw [hro]; rfl)) (fun _ hR K hK => ?_)
    replace hF := hF.trans hR
    clear hR
    go_simp
    try (unfold stored; go_simp)
    try go_ints
    refine hK _ _ y (by rw [listed_nil (by simp [go_sem, *])]; exact hT.idle _ _) ?_
    clear hK K
    try walk_nrm
    refine t_op hT rfl (by rfl) (by first | decide | assumption) (by first | rfl | (rw [hro]; rfl)) (fun _ hR K hK => ?_)
    replace hF := hF.trans hR
    clear hR
    have hce := (cell_rely (.inr hbS) hF).trans hbox
    go_simp
    try (unfold stored; go_simp)
    try go_ints
    refine hK _ _ y (dg_reads ?_) ?_
    · co_evs (exact evm_read (.inr hbS))
    clear hK K
    try walk_nrm
    clear hce
    refine t_call hT rfl (by rfl) (by decide) rfl rfl Try.func25 (by rfl) rfl (by walk_nrm; exact behindOf_g hT _ _ _ _ xs xs (rdA_rely hS hF hA) hS (rdA_rely hS hF hA) hS hn hn (hB.rely hF)) ?_
    rintro _ y1 w1 ⟨A1, c1, rfl, hr1, hs1, gw, _⟩
    replace hF := And.intro ((Gw.of_rg hB hF).trans gw) hr1
    clear hr1 gw
    have hsub := hF.1.sub
    try walk_nrm
    refine t_call hT rfl (by rfl) (by decide) rfl rfl Try.func43 (by rfl) rfl (by walk_nrm; exact equal_g hT _ _ _ _ (behindL xs xs) f hF.2 hs1 (rdA_rely hSf hF.1.rg hf) (fun ad e => .inr (hfS ad e)) hbl hnf) ?_
    rintro _ _ _ ⟨rfl, rfl, hG⟩
    replace hF := And.intro (hF.1.rely hG) (rdA_rely hs1 hG hF.2)
    clear hG
    try walk_nrm
    refine t_op hT rfl (by rfl) (by first | decide | assumption) (by first | rfl | (rw [hro]; rfl)) (fun _ hR K hK => ?_)
    replace hF := And.intro (hF.1.rely hR) (rdA_rely hs1 hR hF.2)
    clear hR
    go_simp
    try (unfold stored; go_simp)
    try go_ints
    refine hK _ _ y1 (by rw [listed_nil (by simp [go_sem, *])]; exact hT.idle _ _) ?_
    clear hK K
    try walk_nrm
    repeat (first | refine t_seq hT ?_ | refine t_block hT ?_ | refine t_skip hT ?_ | refine t_inBlock hT ?_ | refine t_rend hT ?_ | refine t_exit hT rfl ?_)
    refine t_ret hT rfl rfl rfl Try.func42 (resultsC_tmp (by rfl) _) (hc _ _ _ ?_)
    exact ⟨by simp, hF.1⟩
  · skip
    refine t_op hT rfl (by rfl) (by first | decide | assumption) (by first | rfl | (rw [hro]; rfl)) (fun _ hR K hK => ?_)
    replace hF := hF.trans hR
    clear hR
    go_simp
    try (unfold stored; go_simp)
    try go_ints
    refine hK _ _ y (by rw [listed_nil (by simp [go_sem, *])]; exact hT.idle _ _) ?_
    clear hK K
    try walk_nrm
    refine t_op hT rfl (by rfl) (by first | decide | assumption) (by first | rfl | (rw [hro]; rfl)) (fun _ hR K hK => ?_)
    replace hF := hF.trans hR
    clear hR
    have hce := (cell_rely (.inr hbS) hF).trans hbox
    go_simp
    try (unfold stored; go_simp)
    try go_ints
    refine hK _ _ y (dg_reads ?_) ?_
    · co_evs (exact evm_read (.inr hbS))
    clear hK K
    try walk_nrm
    clear hce
    refine t_op hT rfl (by rfl) (by first | decide | assumption) (by first | rfl | (rw [hro]; rfl)) (fun _ hR K hK => ?_)
    replace hF := hF.trans hR
    clear hR
    go_simp
    try (unfold stored; go_simp)
    try go_ints
    refine hK _ _ y (by rw [listed_nil (by simp [go_sem, *])]; exact hT.idle _ _) ?_
    clear hK K
    try walk_nrm
    refine t_call hT rfl (by rfl) (by decide) rfl rfl Try.func25 (by rfl) rfl (by walk_nrm; exact behindOf_g hT _ _ _ _ xs xs (rdA_rely hS hF hA) hS (rdA_rely hS hF hA) hS hn hn (hB.rely hF)) ?_
    rintro _ y1 w1 ⟨A1, c1, rfl, hr1, hs1, gw, _⟩
    replace hF := And.intro ((Gw.of_rg hB hF).trans gw) hr1
    clear hr1 gw
    have hsub := hF.1.sub
    try walk_nrm
    refine t_call hT rfl (by rfl) (by decide) rfl rfl Try.func43 (by rfl) rfl (by walk_nrm; exact equal_g hT _ _ _ _ (behindL xs xs) f hF.2 hs1 (rdA_rely hSf hF.1.rg hf) (fun ad e => .inr (hfS ad e)) hbl hnf) ?_
    rintro _ _ _ ⟨rfl, rfl, hG⟩
    replace hF := And.intro (hF.1.rely hG) (rdA_rely hs1 hG hF.2)
    clear hG
    try walk_nrm
    refine t_op hT rfl (by rfl) (by first | decide | assumption) (by first | rfl | (rw [hro]; rfl)) (fun _ hR K hK => ?_)
    replace hF := And.intro (hF.1.rely hR) (rdA_rely hs1 hR hF.2)
    clear hR
    go_simp
    try (unfold stored; go_simp)
    try go_ints
    refine hK _ _ y1 (by rw [listed_nil (by simp [go_sem, *])]; exact hT.idle _ _) ?_
    clear hK K
    try walk_nrm
    repeat (first | refine t_seq hT ?_ | refine t_block hT ?_ | refine t_skip hT ?_ | refine t_inBlock hT ?_ | refine t_rend hT ?_ | refine t_exit hT rfl ?_)
    refine t_ret hT rfl rfl rfl Try.func42 (resultsC_tmp (by rfl) _) (hc _ _ _ ?_)
    exact ⟨by simp, hF.1⟩
  · skip
    refine t_op hT rfl (by rfl) (by first | decide | assumption) (by first | rfl | (rw [hro]; rfl)) (fun _ hR K hK => ?_)
    replace hF := hF.trans hR
    clear hR
    go_simp
    try (unfold stored; go_simp)
    try go_ints
    refine hK _ _ y (by rw [listed_nil (by simp [go_sem, *])]; exact hT.idle _ _) ?_
    clear hK K
    try walk_nrm
    refine t_op hT rfl (by rfl) (by first | decide | assumption) (by first | rfl | (rw [hro]; rfl)) (fun _ hR K hK => ?_)
    replace hF := hF.trans hR
    clear hR
    go_simp
    try (unfold stored; go_simp)
    try go_ints
    refine hK _ _ y (by rw [listed_nil (by simp [go_sem, *])]; exact hT.idle _ _) ?_
    clear hK K
    try walk_nrm
    refine t_call hT rfl (by rfl) (by decide) rfl rfl Try.func25 (by rfl) rfl (by walk_nrm; exact behindOf_g hT _ _ _ _ xs xs (rdA_rely hS hF hA) hS (rdA_rely hS hF hA) hS hn hn (hB.rely hF)) ?_
    rintro _ y1 w1 ⟨A1, c1, rfl, hr1, hs1, gw, _⟩
    replace hF := And.intro ((Gw.of_rg hB hF).trans gw) hr1
    clear hr1 gw
    have hsub := hF.1.sub
    try walk_nrm
    refine t_op hT rfl (by rfl) (by first | decide | assumption) (by first | rfl | (rw [hro]; rfl)) (fun _ hR K hK => ?_)
    replace hF := And.intro (hF.1.rely hR) (rdA_rely hs1 hR hF.2)
    clear hR
    have hce := (cell_rely (.inr hbS) hF.1.rg).trans hbox
    go_simp
    try (unfold stored; go_simp)
    try go_ints
    refine hK _ _ y1 (dg_reads ?_) ?_
    · co_evs (exact evm_read (.inr hbS))
    clear hK K
    try walk_nrm
    clear hce
    refine t_call hT rfl (by rfl) (by decide) rfl rfl Try.func43 (by rfl) rfl (by walk_nrm; exact equal_g hT _ _ _ _ (behindL xs xs) f hF.2 hs1 (rdA_rely hSf hF.1.rg hf) (fun ad e => .inr (hfS ad e)) hbl hnf) ?_
    rintro _ _ _ ⟨rfl, rfl, hG⟩
    replace hF := And.intro (hF.1.rely hG) (rdA_rely hs1 hG hF.2)
    clear hG
    try walk_nrm
    refine t_op hT rfl (by rfl) (by first | decide | assumption) (by first | rfl | (rw [hro]; rfl)) (fun _ hR K hK => ?_)
    replace hF := And.intro (hF.1.rely hR) (rdA_rely hs1 hR hF.2)
    clear hR
    go_simp
    try (unfold stored; go_simp)
    try go_ints
    refine hK _ _ y1 (by rw [listed_nil (by simp [go_sem, *])]; exact hT.idle _ _) ?_
    clear hK K
    try walk_nrm
    repeat (first | refine t_seq hT ?_ | refine t_block hT ?_ | refine t_skip hT ?_ | refine t_inBlock hT ?_ | refine t_rend hT ?_ | refine t_exit hT rfl ?_)
    refine t_ret hT rfl rfl rfl Try.func42 (resultsC_tmp (by rfl) _) (hc _ _ _ ?_)
    exact ⟨by simp, hF.1⟩
  · skip
    refine t_op hT rfl (by rfl) (by first | decide | assumption) (by first | rfl | (rw [hro]; rfl)) (fun _ hR K hK => ?_)
    replace hF := hF.trans hR
    clear hR
    go_simp
    try (unfold stored; go_simp)
    try go_ints
    refine hK _ _ y (by rw [listed_nil (by simp [go_sem, *])]; exact hT.idle _ _) ?_
    clear hK K
    try walk_nrm
    refine t_op hT rfl (by rfl) (by first | decide | assumption) (by first | rfl | (rw [hro]; rfl)) (fun _ hR K hK => ?_)
    replace hF := hF.trans hR
    clear hR
    go_simp
    try (unfold stored; go_simp)
    try go_ints
    refine hK _ _ y (by rw [listed_nil (by simp [go_sem, *])]; exact hT.idle _ _) ?_
    clear hK K
    try walk_nrm
    refine t_op hT rfl (by rfl) (by first | decide | assumption) (by first | rfl | (rw [hro]; rfl)) (fun _ hR K hK => ?_)
    replace hF := hF.trans hR
    clear hR
    have hce := (cell_rely (.inr hbS) hF).trans hbox
    go_simp
    try (unfold stored; go_simp)
    try go_ints
    refine hK _ _ y (dg_reads ?_) ?_
    · co_evs (exact evm_read (.inr hbS))
    clear hK K
    try walk_nrm
    clear hce
    refine t_call hT rfl (by rfl) (by decide) rfl rfl Try.func25 (by rfl) rfl (by walk_nrm; exact behindOf_g hT _ _ _ _ xs xs (rdA_rely hS hF hA) hS (rdA_rely hS hF hA) hS hn hn (hB.rely hF)) ?_
    rintro _ y1 w1 ⟨A1, c1, rfl, hr1, hs1, gw, _⟩
    replace hF := And.intro ((Gw.of_rg hB hF).trans gw) hr1
    clear hr1 gw
    have hsub := hF.1.sub
    try walk_nrm
    refine t_call hT rfl (by rfl) (by decide) rfl rfl Try.func43 (by rfl) rfl (by walk_nrm; exact equal_g hT _ _ _ _ (behindL xs xs) f hF.2 hs1 (rdA_rely hSf hF.1.rg hf) (fun ad e => .inr (hfS ad e)) hbl hnf) ?_
    rintro _ _ _ ⟨rfl, rfl, hG⟩
    replace hF := And.intro (hF.1.rely hG) (rdA_rely hs1 hG hF.2)
    clear hG
    try walk_nrm
    refine t_op hT rfl (by rfl) (by first | decide | assumption) (by first | rfl | (rw [hro]; rfl)) (fun _ hR K hK => ?_)
    replace hF := And.intro (hF.1.rely hR) (rdA_rely hs1 hR hF.2)
    clear hR
    go_simp
    try (unfold stored; go_simp)
    try go_ints
    refine hK _ _ y1 (by rw [listed_nil (by simp [go_sem, *])]; exact hT.idle _ _) ?_
    clear hK K
    try walk_nrm
    repeat (first | refine t_seq hT ?_ | refine t_block hT ?_ | refine t_skip hT ?_ | refine t_inBlock hT ?_ | refine t_rend hT ?_ | refine t_exit hT rfl ?_)
    refine t_ret hT rfl rfl rfl Try.func42 (resultsC_tmp (by rfl) _) (hc _ _ _ ?_)
    exact ⟨by simp, hF.1⟩
  · skip
    refine t_op hT rfl (by rfl) (by first | decide | assumption) (by first | rfl | (rw [hro]; rfl)) (fun _ hR K hK => ?_)
    replace hF := hF.trans hR
    clear hR
    go_simp
    try (unfold stored; go_simp)
    try go_ints
    refine hK _ _ y (by rw [listed_nil (by simp [go_sem, *])]; exact hT.idle _ _) ?_
    clear hK K
    try walk_nrm
    refine t_op hT rfl (by rfl) (by first | decide | assumption) (by first | rfl | (rw [hro]; rfl)) (fun _ hR K hK => ?_)
    replace hF := hF.trans hR
    clear hR
    have hce := (cell_rely (.inr hbS) hF).trans hbox
    go_simp
    try (unfold stored; go_simp)
    try go_ints
    refine hK _ _ y (dg_reads ?_) ?_
    · co_evs (exact evm_read (.inr hbS))
    clear hK K
    try walk_nrm
    clear hce
    refine t_op hT rfl (by rfl) (by first | decide | assumption) (by first | rfl | (rw [hro]; rfl)) (fun _ hR K hK => ?_)
    replace hF := hF.trans hR
    clear hR
    go_simp
    try (unfold stored; go_simp)
    try go_ints
    refine hK _ _ y (by rw [listed_nil (by simp [go_sem, *])]; exact hT.idle _ _) ?_
    clear hK K
    try walk_nrm
    refine t_call hT rfl (by rfl) (by decide) rfl rfl Try.func25 (by rfl) rfl (by walk_nrm; exact behindOf_g hT _ _ _ _ xs xs (rdA_rely hS hF hA) hS (rdA_rely hS hF hA) hS hn hn (hB.rely hF)) ?_
    rintro _ y1 w1 ⟨A1, c1, rfl, hr1, hs1, gw, _⟩
    replace hF := And.intro ((Gw.of_rg hB hF).trans gw) hr1
    clear hr1 gw
    have hsub := hF.1.sub
    try walk_nrm
    refine t_call hT rfl (by rfl) (by decide) rfl rfl Try.func43 (by rfl) rfl (by walk_nrm; exact equal_g hT _ _ _ _ (behindL xs xs) f hF.2 hs1 (rdA_rely hSf hF.1.rg hf) (fun ad e => .inr (hfS ad e)) hbl hnf) ?_
    rintro _ _ _ ⟨rfl, rfl, hG⟩
    replace hF := And.intro (hF.1.rely hG) (rdA_rely hs1 hG hF.2)
    clear hG
    try walk_nrm
    refine t_op hT rfl (by rfl) (by first | decide | assumption) (by first | rfl | (rw [hro]; rfl)) (fun _ hR K hK => ?_)
    replace hF := And.intro (hF.1.rely hR) (rdA_rely hs1 hR hF.2)
    clear hR
    go_simp
    try (unfold stored; go_simp)
    try go_ints
    refine hK _ _ y1 (by rw [listed_nil (by simp [go_sem, *])]; exact hT.idle _ _) ?_
    clear hK K
    try walk_nrm
    repeat (first | refine t_seq hT ?_ | refine t_block hT ?_ | refine t_skip hT ?_ | refine t_inBlock hT ?_ | refine t_rend hT ?_ | refine t_exit hT rfl ?_)
    refine t_ret hT rfl rfl rfl Try.func42 (resultsC_tmp (by rfl) _) (hc _ _ _ ?_)
    exact ⟨by simp, hF.1⟩
  · skip
    refine t_op hT rfl (by rfl) (by first | decide | assumption) (by first | rfl | (rw [hro]; rfl)) (fun _ hR K hK => ?_)
    replace hF := hF.trans hR
    clear hR
    have hce := (cell_rely (.inr hbS) hF).trans hbox
    go_simp
    try (unfold stored; go_simp)
    try go_ints
    refine hK _ _ y (dg_reads ?_) ?_
    · co_evs (exact evm_read (.inr hbS))
    clear hK K
    try walk_nrm
    clear hce
    refine t_op hT rfl (by rfl) (by first | decide | assumption) (by first | rfl | (rw [hro]; rfl)) (fun _ hR K hK => ?_)
    replace hF := hF.trans hR
    clear hR
    go_simp
    try (unfold stored; go_simp)
    try go_ints
    refine hK _ _ y (by rw [listed_nil (by simp [go_sem, *])]; exact hT.idle _ _) ?_
    clear hK K
    try walk_nrm
    refine t_op hT rfl (by rfl) (by first | decide | assumption) (by first | rfl | (rw [hro]; rfl)) (fun _ hR K hK => ?_)
    replace hF := hF.trans hR
    clear hR
    go_simp
    try (unfold stored; go_simp)
    try go_ints
    refine hK _ _ y (by rw [listed_nil (by simp [go_sem, *])]; exact hT.idle _ _) ?_
    clear hK K
    try walk_nrm
    refine t_call hT rfl (by rfl) (by decide) rfl rfl Try.func25 (by rfl) rfl (by walk_nrm; exact behindOf_g hT _ _ _ _ xs xs (rdA_rely hS hF hA) hS (rdA_rely hS hF hA) hS hn hn (hB.rely hF)) ?_
    rintro _ y1 w1 ⟨A1, c1, rfl, hr1, hs1, gw, _⟩
    replace hF := And.intro ((Gw.of_rg hB hF).trans gw) hr1
    clear hr1 gw
    have hsub := hF.1.sub
    try walk_nrm
    refine t_call hT rfl (by rfl) (by decide) rfl rfl Try.func43 (by rfl) rfl (by walk_nrm; exact equal_g hT _ _ _ _ (behindL xs xs) f hF.2 hs1 (rdA_rely hSf hF.1.rg hf) (fun ad e => .inr (hfS ad e)) hbl hnf) ?_
    rintro _ _ _ ⟨rfl, rfl, hG⟩
    replace hF := And.intro (hF.1.rely hG) (rdA_rely hs1 hG hF.2)
    clear hG
    try walk_nrm
    refine t_op hT rfl (by rfl) (by first | decide | assumption) (by first | rfl | (rw [hro]; rfl)) (fun _ hR K hK => ?_)
    replace hF := And.intro (hF.1.rely hR) (rdA_rely hs1 hR hF.2)
    clear hR
    go_simp
    try (unfold stored; go_simp)
    try go_ints
    refine hK _ _ y1 (by rw [listed_nil (by simp [go_sem, *])]; exact hT.idle _ _) ?_
    clear hK K
    try walk_nrm
    repeat (first | refine t_seq hT ?_ | refine t_block hT ?_ | refine t_skip hT ?_ | refine t_inBlock hT ?_ | refine t_rend hT ?_ | refine t_exit hT rfl ?_)
    refine t_ret hT rfl rfl rfl Try.func42 (resultsC_tmp (by rfl) _) (hc _ _ _ ?_)
    exact ⟨by simp, hF.1⟩
  · skip
    refine t_op hT rfl (by rfl) (by first | decide | assumption) (by first | rfl | (rw [hro]; rfl)) (fun _ hR K hK => ?_)
    replace hF := hF.trans hR
    clear hR
    have hce := (cell_rely (.inr hbS) hF).trans hbox
    go_simp
    try (unfold stored; go_simp)
    try go_ints
    refine hK _ _ y (dg_reads ?_) ?_
    · co_evs (exact evm_read (.inr hbS))
    clear hK K
    try walk_nrm
    clear hce
    refine t_op hT rfl (by rfl) (by first | decide | assumption) (by first | rfl | (rw [hro]; rfl)) (fun _ hR K hK => ?_)
    replace hF := hF.trans hR
    clear hR
    go_simp
    try (unfold stored; go_simp)
    try go_ints
    refine hK _ _ y (by rw [listed_nil (by simp [go_sem, *])]; exact hT.idle _ _) ?_
    clear hK K
    try walk_nrm
    refine t_op hT rfl (by rfl) (by first | decide | assumption) (by first | rfl | (rw [hro]; rfl)) (fun _ hR K hK => ?_)
    replace hF := hF.trans hR
    clear hR
    go_simp
    try (unfold stored; go_simp)
    try go_ints
    refine hK _ _ y (by rw [listed_nil (by simp [go_sem, *])]; exact hT.idle _ _) ?_
    clear hK K
    try walk_nrm
    refine t_call hT rfl (by rfl) (by decide) rfl rfl Try.func25 (by rfl) rfl (by walk_nrm; exact behindOf_g hT _ _ _ _ xs xs (rdA_rely hS hF hA) hS (rdA_rely hS hF hA) hS hn hn (hB.rely hF)) ?_
    rintro _ y1 w1 ⟨A1, c1, rfl, hr1, hs1, gw, _⟩
    replace hF := And.intro ((Gw.of_rg hB hF).trans gw) hr1
    clear hr1 gw
    have hsub := hF.1.sub
    try walk_nrm
    refine t_call hT rfl (by rfl) (by decide) rfl rfl Try.func43 (by rfl) rfl (by walk_nrm; exact equal_g hT _ _ _ _ (behindL xs xs) f hF.2 hs1 (rdA_rely hSf hF.1.rg hf) (fun ad e => .inr (hfS ad e)) hbl hnf) ?_
    rintro _ _ _ ⟨rfl, rfl, hG⟩
    replace hF := And.intro (hF.1.rely hG) (rdA_rely hs1 hG hF.2)
    clear hG
    try walk_nrm
    refine t_op hT rfl (by rfl) (by first | decide | assumption) (by first | rfl | (rw [hro]; rfl)) (fun _ hR K hK => ?_)
    replace hF := And.intro (hF.1.rely hR) (rdA_rely hs1 hR hF.2)
    clear hR
    go_simp
    try (unfold stored; go_simp)
    try go_ints
    refine hK _ _ y1 (by rw [listed_nil (by simp [go_sem, *])]; exact hT.idle _ _) ?_
    clear hK K
    try walk_nrm
    repeat (first | refine t_seq hT ?_ | refine t_block hT ?_ | refine t_skip hT ?_ | refine t_inBlock hT ?_ | refine t_rend hT ?_ | refine t_exit hT rfl ?_)
    refine t_ret hT rfl rfl rfl Try.func42 (resultsC_tmp (by rfl) _) (hc _ _ _ ?_)
    exact ⟨by simp, hF.1⟩

theorem behindL_le {f g : List Int} (h : f.length ≤ 1048577) : (behindL f g).length ≤ 1048577 := by
  unfold behindL
  split
  · rw [mk_len]; exact h
  · simp
set_option maxHeartbeats 4000000 in
theorem withOk_g (hT : Clo Try.prog main (RG ty Wg S) (DG main Wg S) T) (A B : Option Addr) (c d : Nat) (f g : List Int) (hA : RdA w A f) (hS : Sees y S A) (hA2 : RdA w B g) (hS2 : Sees y S B) (hn : f.length ≤ 1048577) (hm : g.length ≤ 1048577) (hB : Bd S y w) :
    CallsT Try.prog T 24 #[.slice A f.length c, .slice B g.length d] y w fun v y' w' => v = .bool (decide (behindL f g ≠ [] ∧ behindL f g = behindL g f)) ∧ Gw ty Wg S y w y' w' := by
  refine callsT_of Try.func24 rfl fun fr cs hc => ?_
  simp only [Try.ntmps24, List.size_toArray, List.length_cons, List.length_nil, Nat.reduceAdd, Nat.reduceSub, Array.replicate_succ, Array.replicate_zero, List.push_toArray, List.append_toArray, List.nil_append, List.cons_append]
  have hF : RG ty Wg S y w w := RM.refl w
  have hq := run_neqnil
  have hq2 := evs_neqnil
  repeat (first | refine t_seq hT ?_ | refine t_block hT ?_ | refine t_skip hT ?_ | refine t_inBlock hT ?_ | refine t_rend hT ?_ | refine t_exit hT rfl ?_)
  refine t_region hT [0] rfl ?_
  refine t_op hT rfl (by rfl) (by first | decide | assumption) (by first | rfl | (rw [hro]; rfl)) (fun _ hR K hK => ?_)
  replace hF := hF.trans hR
  clear hR
  go_simp
  try (unfold stored; go_simp)
  try go_ints
  refine hK _ _ y (by rw [listed_nil (by simp [go_sem, *])]; exact hT.idle _ _) ?_
  clear hK K
  try walk_nrm
  repeat (first | refine t_seq hT ?_ | refine t_block hT ?_ | refine t_skip hT ?_ | refine t_inBlock hT ?_ | refine t_rend hT ?_ | refine t_exit hT rfl ?_)
  refine t_region hT [0, 1, 2, 3] rfl ?_
  refine t_op hT rfl (by rfl) (by first | decide | assumption) (by first | rfl | (rw [hro]; rfl)) (fun _ hR K hK => ?_)
  replace hF := hF.trans hR
  clear hR
  go_simp
  try (unfold stored; go_simp)
  try go_ints
  refine hK _ _ y (by rw [listed_nil (by simp [go_sem, *])]; exact hT.idle _ _) ?_
  clear hK K
  try walk_nrm
  refine t_op hT rfl (by rfl) (by first | decide | assumption) (by first | rfl | (rw [hro]; rfl)) (fun _ hR K hK => ?_)
  replace hF := hF.trans hR
  clear hR
  go_simp
  try (unfold stored; go_simp)
  try go_ints
  refine hK _ _ y (by rw [listed_nil (by simp [go_sem, *])]; exact hT.idle _ _) ?_
  clear hK K
  try walk_nrm
  refine t_call hT rfl (by rfl) (by decide) rfl rfl Try.func25 (by rfl) rfl (by walk_nrm; exact behindOf_g hT _ _ _ _ f g (rdA_rely hS hF hA) hS (rdA_rely hS2 hF hA2) hS2 hn hm (hB.rely hF)) ?_
  rintro _ y1 w1 ⟨A1, c1, rfl, hr1, hs1, gw, hnil⟩
  replace hF := And.intro ((Gw.of_rg hB hF).trans gw) hr1
  clear hr1 gw
  have hsub := hF.1.sub
  try walk_nrm
  by_cases h0 : behindL f g = []
  · obtain ⟨rfl, rfl⟩ := hnil h0
    have H0 := hid h0
    rw [h0]
    clear h0
    refine t_op hT rfl (by rfl) (by first | decide | assumption) (by first | rfl | (rw [hro]; rfl)) (fun _ hR K hK => ?_)
    replace hF := And.intro (hF.1.rely hR) (rdA_rely hs1 hR hF.2)
    clear hR
    go_simp
    try (unfold stored; go_simp)
    try go_ints
    refine hK _ _ y1 (by rw [listed_nil (by simp [go_sem, *])]; exact hT.idle _ _) ?_
    clear hK K
    try walk_nrm
    repeat (first | refine t_seq hT ?_ | refine t_block hT ?_ | refine t_skip hT ?_ | refine t_inBlock hT ?_ | refine t_rend hT ?_ | refine t_exit hT rfl ?_)
    refine t_region hT [0, 1, 2, 3, 4, 5, 6, 7, 8, 9] rfl ?_
    refine t_op hT rfl (by rfl) (by first | decide | assumption) (by first | rfl | (rw [hro]; rfl)) (fun _ hR K hK => ?_)
    replace hF := And.intro (hF.1.rely hR) (rdA_rely hs1 hR hF.2)
    clear hR
    go_simp
    try (unfold stored; go_simp)
    try go_ints
    refine hK _ _ y1 (by rw [listed_nil (by simp [go_sem, *])]; exact hT.idle _ _) ?_
    clear hK K
    try walk_nrm
    refine t_op hT rfl (by rfl) (by first | decide | assumption) (by first | rfl | (rw [hro]; rfl)) (fun _ hR K hK => ?_)
    replace hF := And.intro (hF.1.rely hR) (rdA_rely hs1 hR hF.2)
    clear hR
    go_simp
    try (unfold stored; go_simp)
    try go_ints
    refine hK _ _ y1 (by rw [listed_nil (by simp [go_sem, *])]; exact hT.idle _ _) ?_
    clear hK K
    try walk_nrm
    refine t_op hT rfl (by rfl) (by first | decide | assumption) (by first | rfl | (rw [hro]; rfl)) (fun _ hR K hK => ?_)
    replace hF := And.intro (hF.1.rely hR) (rdA_rely hs1 hR hF.2)
    clear hR
    go_simp
    try (unfold stored; go_simp)
    try go_ints
    refine hK _ _ y1 (by rw [listed_nil (by simp [go_sem, *])]; exact hT.idle _ _) ?_
    clear hK K
    try walk_nrm
    refine t_un hT rfl (by rfl) ?_
    try walk_nrm
    refine t_un hT rfl (by rfl) ?_
    try walk_nrm
    refine t_un hT rfl (by rfl) ?_
    try walk_nrm
    refine t_un hT rfl (by rfl) ?_
    try walk_nrm
    refine t_un hT rfl (by rfl) ?_
    try walk_nrm
    refine t_op hT rfl (by rfl) (by first | decide | assumption) (by first | rfl | (rw [hro]; rfl)) (fun _ hR K hK => ?_)
    replace hF := And.intro (hF.1.rely hR) (rdA_rely hs1 hR hF.2)
    clear hR
    go_simp
    try (unfold stored; go_simp)
    try go_ints
    refine hK _ _ y1 (by rw [listed_nil (by simp [go_sem, *])]; exact hT.idle _ _) ?_
    clear hK K
    try walk_nrm
    refine t_op hT rfl (by rfl) (by first | decide | assumption) (by first | rfl | (rw [hro]; rfl)) (fun _ hR K hK => ?_)
    replace hF := And.intro (hF.1.rely hR) (rdA_rely hs1 hR hF.2)
    clear hR
    go_simp
    try (unfold stored; go_simp)
    try go_ints
    refine hK _ _ y1 (by rw [listed_nil (by simp [go_sem, *])]; exact hT.idle _ _) ?_
    clear hK K
    try walk_nrm
    repeat (first | refine t_seq hT ?_ | refine t_block hT ?_ | refine t_skip hT ?_ | refine t_inBlock hT ?_ | refine t_rend hT ?_ | refine t_exit hT rfl ?_)
    refine t_ret hT rfl rfl rfl Try.func24 (resultsC_tmp (by rfl) _) (hc _ _ _ ?_)
    exact ⟨by simp [H0.out], hF.1⟩
  · have H0 := hid h0
    obtain ⟨ad, rfl, _⟩ := hF.2 0 (by rcases hl : (behindL f g).length with _ | k; exact absurd (List.eq_nil_of_length_eq_zero hl) h0; omega)
    clear h0 hnil
    refine t_op hT rfl (by rfl) (by first | decide | assumption) (by first | rfl | (rw [hro]; rfl)) (fun _ hR K hK => ?_)
    replace hF := And.intro (hF.1.rely hR) (rdA_rely hs1 hR hF.2)
    clear hR
    go_simp
    try (unfold stored; go_simp)
    try go_ints
    refine hK _ _ y1 (by rw [listed_nil (by simp [go_sem, *])]; exact hT.idle _ _) ?_
    clear hK K
    try walk_nrm
    repeat (first | refine t_seq hT ?_ | refine t_block hT ?_ | refine t_skip hT ?_ | refine t_inBlock hT ?_ | refine t_rend hT ?_ | refine t_exit hT rfl ?_)
    refine t_region hT [0, 1, 2, 3, 4, 5, 6, 7, 8, 9] rfl ?_
    refine t_op hT rfl (by rfl) (by first | decide | assumption) (by first | rfl | (rw [hro]; rfl)) (fun _ hR K hK => ?_)
    replace hF := And.intro (hF.1.rely hR) (rdA_rely hs1 hR hF.2)
    clear hR
    go_simp
    try (unfold stored; go_simp)
    try go_ints
    refine hK _ _ y1 (by rw [listed_nil (by simp [go_sem, *])]; exact hT.idle _ _) ?_
    clear hK K
    try walk_nrm
    refine t_op hT rfl (by rfl) (by first | decide | assumption) (by first | rfl | (rw [hro]; rfl)) (fun _ hR K hK => ?_)
    replace hF := And.intro (hF.1.rely hR) (rdA_rely hs1 hR hF.2)
    clear hR
    go_simp
    try (unfold stored; go_simp)
    try go_ints
    refine hK _ _ y1 (by rw [listed_nil (by simp [go_sem, *])]; exact hT.idle _ _) ?_
    clear hK K
    try walk_nrm
    refine t_op hT rfl (by rfl) (by first | decide | assumption) (by first | rfl | (rw [hro]; rfl)) (fun _ hR K hK => ?_)
    replace hF := And.intro (hF.1.rely hR) (rdA_rely hs1 hR hF.2)
    clear hR
    go_simp
    try (unfold stored; go_simp)
    try go_ints
    refine hK _ _ y1 (by rw [listed_nil (by simp [go_sem, *])]; exact hT.idle _ _) ?_
    clear hK K
    try walk_nrm
    refine t_op hT rfl (by rfl) (by first | decide | assumption) (by first | rfl | (rw [hro]; rfl)) (fun _ hR K hK => ?_)
    replace hF := And.intro (hF.1.rely hR) (rdA_rely hs1 hR hF.2)
    clear hR
    go_simp
    try (unfold stored; go_simp)
    try go_ints
    refine hK _ _ y1 (by rw [listed_nil (by simp [go_sem, *])]; exact hT.idle _ _) ?_
    clear hK K
    try walk_nrm
    refine t_op hT rfl (by rfl) (by first | decide | assumption) (by first | rfl | (rw [hro]; rfl)) (fun _ hR K hK => ?_)
    replace hF := And.intro (hF.1.rely hR) (rdA_rely hs1 hR hF.2)
    clear hR
    go_simp
    try (unfold stored; go_simp)
    try go_ints
    refine hK _ _ y1 (by rw [listed_nil (by simp [go_sem, *])]; exact hT.idle _ _) ?_
    clear hK K
    try walk_nrm
    refine t_op hT rfl (by rfl) (by first | decide | assumption) (by first | rfl | (rw [hro]; rfl)) (fun _ hR K hK => ?_)
    replace hF := And.intro (hF.1.rely hR) (rdA_rely hs1 hR hF.2)
    clear hR
    go_simp
    try (unfold stored; go_simp)
    try go_ints
    refine hK _ _ y1 (by rw [listed_nil (by simp [go_sem, *])]; exact hT.idle _ _) ?_
    clear hK K
    try walk_nrm
    refine t_call hT rfl (by rfl) (by decide) rfl rfl Try.func25 (by rfl) rfl (by walk_nrm; exact behindOf_g hT _ _ _ _ g f (rdA_rely hS2 hF.1.rg hA2) (fun ad e => (hS2 ad e).imp (hsub _) id) (rdA_rely hS hF.1.rg hA) (fun ad e => (hS ad e).imp (hsub _) id) hm hn hF.1.bd) ?_
    rintro _ y2 w2 ⟨A2, c2, rfl, hr2, hs2, gw, _⟩
    have hs1' : Sees y2 S (some ad) := fun ad e => (hs1 ad e).imp (gw.sub _) id
    replace hF := And.intro (hF.1.trans gw) (And.intro (rdA_rely hs1 gw.rg hF.2) hr2)
    clear hr2 gw
    try walk_nrm
    refine t_call hT rfl (by rfl) (by decide) rfl rfl Try.func43 (by rfl) rfl (by walk_nrm; exact equal_g hT _ _ _ _ (behindL f g) (behindL g f) hF.2.1 hs1' hF.2.2 hs2 (behindL_le hn) (behindL_le hm)) ?_
    rintro _ _ _ ⟨rfl, rfl, hG⟩
    replace hF := And.intro (hF.1.rely hG) (And.intro (rdA_rely hs1' hG hF.2.1) (rdA_rely hs2 hG hF.2.2))
    clear hG
    try walk_nrm
    refine t_op hT rfl (by rfl) (by first | decide | assumption) (by first | rfl | (rw [hro]; rfl)) (fun _ hR K hK => ?_)
    replace hF := And.intro (hF.1.rely hR) (And.intro (rdA_rely hs1' hR hF.2.1) (rdA_rely hs2 hR hF.2.2))
    clear hR
    go_simp
    try (unfold stored; go_simp)
    try go_ints
    refine hK _ _ y2 (by rw [listed_nil (by simp [go_sem, *])]; exact hT.idle _ _) ?_
    clear hK K
    try walk_nrm
    refine t_op hT rfl (by rfl) (by first | decide | assumption) (by first | rfl | (rw [hro]; rfl)) (fun _ hR K hK => ?_)
    replace hF := And.intro (hF.1.rely hR) (And.intro (rdA_rely hs1' hR hF.2.1) (rdA_rely hs2 hR hF.2.2))
    clear hR
    go_simp
    try (unfold stored; go_simp)
    try go_ints
    refine hK _ _ y2 (by rw [listed_nil (by simp [go_sem, *])]; exact hT.idle _ _) ?_
    clear hK K
    try walk_nrm
    repeat (first | refine t_seq hT ?_ | refine t_block hT ?_ | refine t_skip hT ?_ | refine t_inBlock hT ?_ | refine t_rend hT ?_ | refine t_exit hT rfl ?_)
    refine t_ret hT rfl rfl rfl Try.func24 (resultsC_tmp (by rfl) _) (hc _ _ _ ?_)
    exact ⟨by simp [H0.out], hF.1⟩

set_option maxHeartbeats 4000000 in
theorem allWith1_g (hT : Clo Try.prog main (RG ty Wg S) (DG main Wg S) T) (A : Option Addr) (c : Nat) (xs : List Int) (hA : RdA w A xs) (hS : Sees y S A) (hn : xs.length ≤ 1048577) (hB : Bd S y w)
    (bx : Addr) (hbS : S bx.block) (F : Option Addr) (cf : Nat) (f : List Int) (hbox : w.cell? bx = some (.slice F f.length cf)) (hf : RdA w F f) (hfS : ∀ ad, F = some ad → S ad.block) (hnf : f.length ≤ 1048577) :
    CallsT Try.prog T 46 #[.slice A xs.length c, .pointer (some bx)] y w fun v y' w' => v = .bool (decide (behindL f xs ≠ [] ∧ behindL f xs = behindL xs f)) ∧ Gw ty Wg S y w y' w' := by
  have hSf : Sees y S F := fun ad e => .inr (hfS ad e)
  refine callsT_of Try.func46 rfl fun fr cs hc => ?_
  simp only [Try.ntmps46, List.size_toArray, List.length_cons, List.length_nil, Nat.reduceAdd, Nat.reduceSub, Array.replicate_succ, Array.replicate_zero, List.push_toArray, List.append_toArray, List.nil_append, List.cons_append]
  have hF : RG ty Wg S y w w := RM.refl w
  repeat (first | refine t_seq hT ?_ | refine t_block hT ?_ | refine t_skip hT ?_ | refine t_inBlock hT ?_ | refine t_rend hT ?_ | refine t_exit hT rfl ?_)
  refine t_region hT [0] rfl ?_
  refine t_op hT rfl (by rfl) (by first | decide | assumption) (by first | rfl | (rw [hro]; rfl)) (fun _ hR K hK => ?_)
  replace hF := hF.trans hR
  clear hR
  go_simp
  try (unfold stored; go_simp)
  try go_ints
  refine hK _ _ y (by rw [listed_nil (by simp [go_sem, *])]; exact hT.idle _ _) ?_
  clear hK K
  try walk_nrm
  repeat (first | refine t_seq hT ?_ | refine t_block hT ?_ | refine t_skip hT ?_ | refine t_inBlock hT ?_ | refine t_rend hT ?_ | refine t_exit hT rfl ?_)
  refine t_region hT [0, 1, 2, 3] rfl ?_
  refine t_op hT rfl (by rfl) (by first | decide | assumption) (by first | rfl | (rw [hro]; rfl)) (fun _ hR K hK => ?_)
  replace hF := hF.trans hR
  clear hR
  have hce := (cell_rely (.inr hbS) hF).trans hbox
  go_simp
  try (unfold stored; go_simp)
  try go_ints
  refine hK _ _ y (dg_reads ?_) ?_
  · co_evs (exact evm_read (.inr hbS))
  clear hK K
  try walk_nrm
  refine t_op hT rfl (by rfl) (by first | decide | assumption) (by first | rfl | (rw [hro]; rfl)) (fun _ hR K hK => ?_)
  replace hF := hF.trans hR
  clear hR
  go_simp
  try (unfold stored; go_simp)
  try go_ints
  refine hK _ _ y (by rw [listed_nil (by simp [go_sem, *])]; exact hT.idle _ _) ?_
  clear hK K
  try walk_nrm
  refine t_call hT rfl (by rfl) (by decide) rfl rfl Try.func24 (by rfl) rfl (by walk_nrm; exact withOk_g hT _ _ _ _ f xs (rdA_rely hSf hF hf) hSf (rdA_rely hS hF hA) hS hnf hn (hB.rely hF)) ?_
  rintro _ y1 w1 ⟨rfl, gw⟩
  replace hF := (Gw.of_rg hB hF).trans gw
  clear gw
  try walk_nrm
  refine t_op hT rfl (by rfl) (by first | decide | assumption) (by first | rfl | (rw [hro]; rfl)) (fun _ hR K hK => ?_)
  replace hF := hF.rely hR
  clear hR
  go_simp
  try (unfold stored; go_simp)
  try go_ints
  refine hK _ _ y1 (by rw [listed_nil (by simp [go_sem, *])]; exact hT.idle _ _) ?_
  clear hK K
  try walk_nrm
  repeat (first | refine t_seq hT ?_ | refine t_block hT ?_ | refine t_skip hT ?_ | refine t_inBlock hT ?_ | refine t_rend hT ?_ | refine t_exit hT rfl ?_)
  refine t_ret hT rfl rfl rfl Try.func46 (resultsC_tmp (by rfl) _) (hc _ _ _ ?_)
  exact ⟨by simp, hF⟩
end

end Go.Proofs.Ytkbfcaaihellfaa

/- Walks in company: a range over a function: its steps; an operation that is a call of the loop's body. No program in sight. -/
namespace Go.Proofs.Ytkbfcaaihellfaa
open Go.Conc Go.ConcN
set_option linter.unusedVariables false
set_option linter.unusedSectionVars false

section
variable {P : Program} {main : Bool} {b : Frame} {a : Act} {k : List Item} {cs : List Frame} {w : World} {ops : Array Oper}

def loopAt (fn : FuncId) (tmps : Array Value) (params : Array Tmp) (assign body : Code) (r : Nat) : Obj := .loop ⟨.ready, none, fn, tmps, params, assign, body, r⟩
def loopBusy (fn : FuncId) (tmps : Array Value) (params : Array Tmp) (assign body : Code) (r : Nat) : Obj := .loop ⟨.busy, none, fn, tmps, params, assign, body, r⟩
def loopOver (fn : FuncId) (tmps : Array Value) (params : Array Tmp) (assign body : Code) (r : Nat) : Obj := .loop ⟨.exhausted, none, fn, tmps, params, assign, body, r⟩
theorem sG_rangeFunc {f : Operand} {params : Array Tmp} {assign body code : Code} {fid : FuncId} {fn : Func} {cap : Array Value} (hro : b.roundOf = none) (hk : b.kind ≠ .early) (hf : a.eval f = .func (.func fid) #[] cap)
    (hfn : P.funcs[fid]? = some fn) (hname : (fn.name == "runtime.NumGoroutine") = false) (hb : fn.body = some code) :
    stepG P main (G (b.atR a (.code (.rangeFunc f params assign body) :: k)) cs) w =
      .go (G (Frame.enter P fid (#[.func (.yield (w.heap.size + 1)) #[] #[]] ++ cap) .normal) (b.atR ⟨a.tmps, ⟨.collected w.heap.size, #[]⟩ :: a.defers⟩ (.inRangeFunc (w.heap.size + 1) :: k) :: cs))
        ((w.alloc (.deferred (some []))).alloc (loopAt b.fn a.tmps params assign body w.heap.size)) #[] := by
  have h1 : ¬ fn.name = "runtime.NumGoroutine" := by simpa using hname
  have hk' : (b.kind == CallKind.early) = false := by simpa using hk
  have e1 : (Instr.enterLoop b.fn a.tmps params assign body none).runT P w #[] = (.ok (w.heap.size + 1, [⟨.collected w.heap.size, #[]⟩]) ((w.alloc (.deferred (some []))).alloc (loopAt b.fn a.tmps params assign body w.heap.size)), #[]) := by
    have : (w.alloc (.deferred (some []))).heap.size = w.heap.size + 1 := Array.size_push _
    rw [← this]
    rfl
  generalize hW : ((w.alloc (.deferred (some []))).alloc (loopAt b.fn a.tmps params assign body w.heap.size)) = W at e1 ⊢
  have he : (b.atR ⟨a.tmps, ⟨.collected w.heap.size, #[]⟩ :: a.defers⟩ (.inRangeFunc (w.heap.size + 1) :: k)).eval f = .func (.func fid) #[] cap := by rw [Frame.eval_atR]; exact hf
  have h2 : ¬ fn.body = none := by rw [hb]; simp
  have e2 : ((do let d ← resolve (b.atR ⟨a.tmps, ⟨.collected w.heap.size, #[]⟩ :: a.defers⟩ (.inRangeFunc (w.heap.size + 1) :: k)).eval { callee := .value f, args := #[.const (.func (.yield (w.heap.size + 1)) #[] #[])], argTypes := #[] } 0; invoke d.target d.args) : Sem Next).runT P W #[] = (.ok (.enter fid (#[.func (.yield (w.heap.size + 1)) #[] #[]] ++ cap)) W, #[]) := by
    rw [← Prod.eta (Sem.runT P _ W #[])]
    simp [resolve, Deferred.ofValue, he, invoke, callFunc, hfn, h1, h2]
    rfl
  have e3 : stepG P main (G (b.atR a (.code (.rangeFunc f params assign body) :: k)) cs) w = GStep.after (seen P b.fn #[]) (stepG.apply P true (b.atR ⟨a.tmps, ⟨.collected w.heap.size, #[]⟩ :: a.defers⟩ (.inRangeFunc (w.heap.size + 1) :: k)) cs none (do let d ← resolve (b.atR ⟨a.tmps, ⟨.collected w.heap.size, #[]⟩ :: a.defers⟩ (.inRangeFunc (w.heap.size + 1) :: k)).eval { callee := .value f, args := #[.const (.func (.yield (w.heap.size + 1)) #[] #[])], argTypes := #[] } 0; invoke d.target d.args) W) := by
    simp only [G, stepG, stepG.exec, Frame.atR, hro, e1]
    rfl
  rw [e3, seen_none]
  unfold stepG.apply
  simp only [if_true, e2]
  simp [G, Frame.atR, hk', GStep.after, seen_none]

/-- an object turns -/
def setO (w : World) (l : Nat) (o : Obj) : World := { w with heap := w.heap.setIfInBounds l o }
theorem setO_at {l : Nat} {o : Obj} (h : l < w.heap.size) : (setO w l o).heap[l]? = some o := by unfold setO; exact Array.getElem?_setIfInBounds_self_of_lt h
theorem setO_ne {l b : Nat} {o : Obj} (h : b ≠ l) : (setO w l o).heap[b]? = w.heap[b]? := by unfold setO; exact Array.getElem?_setIfInBounds_ne (fun e => h e.symm)
theorem setO_size {l : Nat} {o : Obj} : (setO w l o).heap.size = w.heap.size := by simp [setO]
def EvO (l : Nat) (es : Array Event) : Prop := ∀ e ∈ es, e.loc = .obj l ∧ e.sync = false
theorem seen_evO {fn : FuncId} {l : Nat} {es : Array Event} (h : EvO l es) : EvO l (seen P fn es) := fun e he => h e (mem_seen he)

variable {l r f : Nat} {tmps : Array Value} {params : Array Tmp} {assign body : Code}
theorem run_getL {lp : Loop} (hl : w.heap[l]? = some (.loop lp)) : (getObj l).run P w = .ok (.loop lp) w := by simp [getObj, Sem.run, hl]
theorem ev_getL {lp : Loop} {es : Array Event} (hl : w.heap[l]? = some (.loop lp)) : (getObj l).events P w es = es.push ⟨.obj l, false, false⟩ := by simp [getObj, Sem.events, Sem.runT, hl, -Sem.runT_eq, Obj.isChan]
theorem run_setL {lp lp' : Loop} (hl : w.heap[l]? = some (.loop lp)) : (setObj l (.loop lp')).run P w = .ok () (setO w l (.loop lp')) := by simp [setObj, Sem.run, hl, setO]
theorem ev_setL {lp lp' : Loop} {es : Array Event} (hl : w.heap[l]? = some (.loop lp)) : (setObj l (.loop lp')).events P w es = es.push ⟨.obj l, true, false⟩ := by simp [setObj, Sem.events, Sem.runT, hl, -Sem.runT_eq, Obj.isChan]
theorem run_getD {ds : Option (List Deferred)} (hl : w.heap[l]? = some (.deferred ds)) : (getObj l).run P w = .ok (.deferred ds) w := by simp [getObj, Sem.run, hl]
theorem ev_getD {ds : Option (List Deferred)} {es : Array Event} (hl : w.heap[l]? = some (.deferred ds)) : (getObj l).events P w es = es.push ⟨.obj l, false, false⟩ := by simp [getObj, Sem.events, Sem.runT, hl, -Sem.runT_eq, Obj.isChan]
theorem run_setD {ds ds' : Option (List Deferred)} (hl : w.heap[l]? = some (.deferred ds)) : (setObj l (.deferred ds')).run P w = .ok () (setO w l (.deferred ds')) := by simp [setObj, Sem.run, hl, setO]
theorem ev_setD {ds ds' : Option (List Deferred)} {es : Array Event} (hl : w.heap[l]? = some (.deferred ds)) : (setObj l (.deferred ds')).events P w es = es.push ⟨.obj l, true, false⟩ := by simp [setObj, Sem.events, Sem.runT, hl, -Sem.runT_eq, Obj.isChan]
theorem run_getLoop {lp : Loop} (hl : w.heap[l]? = some (.loop lp)) : (Instr.getLoop l).run P w = .ok lp w := by simp [Instr.getLoop, run_getL hl]
theorem ev_getLoop {lp : Loop} {es : Array Event} (hl : w.heap[l]? = some (.loop lp)) : (Instr.getLoop l).events P w es = es.push ⟨.obj l, false, false⟩ := by simp [Instr.getLoop, run_getL hl, ev_getL hl]
theorem sG_begin (hro : b.roundOf = some l) (hk : b.kind ≠ .early) (hl : w.heap[l]? = some (loopAt f tmps params assign body r)) :
    ∃ es, EvO l es ∧ stepG P main (G (b.atR a (.beginRound :: k)) cs) w = .go (G (b.atR a k) cs) (setO w l (loopBusy f tmps params assign body r)) es := by
  have hk' : (b.kind == CallKind.early) = false := by simpa using hk
  have e1 : ((do Instr.beginRound l; pure .skip) : Sem Next).runT P w #[] = (.ok .skip (setO w l (loopBusy f tmps params assign body r)), #[⟨.obj l, false, false⟩, ⟨.obj l, true, false⟩]) := by
    unfold loopAt at hl
    simp [Instr.beginRound, run_getLoop hl, ev_getLoop hl, run_setL hl, ev_setL hl, loopBusy]
  refine ⟨seen P b.fn #[⟨.obj l, false, false⟩, ⟨.obj l, true, false⟩], seen_evO (by intro e he; simp at he; rcases he with rfl | rfl <;> exact ⟨rfl, rfl⟩), ?_⟩
  have e3 : stepG P main (G (b.atR a (.beginRound :: k)) cs) w = stepG.apply P true (b.atR a (.beginRound :: k)) cs none (do Instr.beginRound l; pure .skip) w := by
    simp only [G, stepG, stepG.exec, Frame.atR, hro]
    rfl
  rw [e3]
  unfold stepG.apply
  simp only [if_true, e1]
  simp [G, Frame.atR, hk', GStep.after, Frame.finish]
theorem sG_endRound {c : Frame} (hro : b.roundOf = some l) (hk : b.kind = .normal) (hl : w.heap[l]? = some (loopBusy f tmps params assign body r)) :
    ∃ es, EvO l es ∧ stepG P main (G (b.atR a []) (c :: cs)) w = .go (G (c.finish (.bool true)) cs) (setO w l (loopAt f tmps params assign body r)) es := by
  have e1 : (Instr.endRound l none).runT P w #[] = (.ok (.bool true) (setO w l (loopAt f tmps params assign body r)), #[⟨.obj l, false, false⟩, ⟨.obj l, true, false⟩]) := by
    unfold loopBusy at hl
    simp [Instr.endRound, run_getLoop hl, ev_getLoop hl, run_setL hl, ev_setL hl, loopAt]
  refine ⟨seen P b.fn #[⟨.obj l, false, false⟩, ⟨.obj l, true, false⟩], seen_evO (by intro e he; simp at he; rcases he with rfl | rfl <;> exact ⟨rfl, rfl⟩), ?_⟩
  simp only [G, stepG, stepG.exec, Frame.atR, hro, e1]
  simp [doReturn, hk, GStep.after]
theorem sG_endRange (hl : w.heap[l]? = some (loopAt f tmps params assign body r)) :
    ∃ es, EvO l es ∧ stepG P main (G (b.atR a (.endRangeFunc l :: k)) cs) w = .go (G (b.atR a k) cs) (setO w l (loopOver f tmps params assign body r)) es := by
  have e1 : (Instr.endLoop l).runT P w #[] = (.ok none (setO w l (loopOver f tmps params assign body r)), #[⟨.obj l, false, false⟩, ⟨.obj l, true, false⟩]) := by
    unfold loopAt at hl
    simp [Instr.endLoop, run_getLoop hl, ev_getLoop hl, run_setL hl, ev_setL hl, loopOver]
  refine ⟨seen P b.fn #[⟨.obj l, false, false⟩, ⟨.obj l, true, false⟩], seen_evO (by intro e he; simp at he; rcases he with rfl | rfl <;> exact ⟨rfl, rfl⟩), ?_⟩
  simp only [G, stepG, stepG.exec, Frame.atR, e1]
  simp [GStep.after]
theorem sG_take {todo : List Item} {ds : List Deferred} (hro : b.roundOf = none) (hd : a.defers = ⟨.collected r, #[]⟩ :: ds) (hl : w.heap[r]? = some (.deferred (some []))) :
    ∃ es, EvO r es ∧ stepG P main (G { b.atR a todo with mode := .returning } cs) w = .go (G { b.atR ⟨a.tmps, ds⟩ todo with mode := .returning } cs) (setO w r (.deferred none)) es := by
  have e1 : (Instr.takeDeferred r).runT P w #[] = (.ok [] (setO w r (.deferred none)), #[⟨.obj r, false, false⟩, ⟨.obj r, true, false⟩]) := by
    simp [Instr.takeDeferred, run_getD hl, ev_getD hl, run_setD hl, ev_setD hl]
  refine ⟨seen P b.fn #[⟨.obj r, false, false⟩, ⟨.obj r, true, false⟩], seen_evO (by intro e he; simp at he; rcases he with rfl | rfl <;> exact ⟨rfl, rfl⟩), ?_⟩
  simp only [G, stepG, unwind, Frame.atR, hd, e1]
  simp [GStep.after]
/-- the loop's body is called -/
theorem run_yield {o : Oper} {x z : Operand} {ats : Array TypeId} {p : Tmp} (hop : o.op = .call { callee := .value x, args := #[z], argTypes := ats }) (hx : a.eval x = .func (.yield l) #[] #[]) (hl : w.heap[l]? = some (loopAt f tmps #[p] assign body r)) :
    (execOp a.eval o).run P w = .ok (.round l f (tmps.setIfInBounds p (a.eval z)) assign body) w ∧ (execOp a.eval o).events P w #[] = #[⟨.obj l, false, false⟩] := by
  unfold loopAt at hl
  unfold execOp
  constructor
  · simp [hop, resolve, Deferred.ofValue, hx, invoke, Instr.yield, run_getLoop hl]
  · simp [hop, resolve, Deferred.ofValue, hx, invoke, Instr.yield, run_getLoop hl, ev_getLoop hl]
end

end Go.Proofs.Ytkbfcaaihellfaa
