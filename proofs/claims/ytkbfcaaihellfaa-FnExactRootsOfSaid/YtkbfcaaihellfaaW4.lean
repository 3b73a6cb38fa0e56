/- Steps on the way to the law; each part says what it proves. -/
import Derived.Test.YtkbfcaaihellfaaW3
import Derived.Test.YtkbfcaaihellfaaU23
import Derived.Test.YtkbfcaaihellfaaU14

set_option linter.unusedSimpArgs false

/- RootsOf and AllWith, a goroutine alone on whatever schedule: through their workers to their return. -/
namespace Go.Proofs.Ytkbfcaaihellfaa
open Go.Conc Go.ConcN Go.ConcN.Gen Go.RowKit Go.Conc.Lib Go.ConcR.Gen
open Go.ConcR (KK wgBlock WgAt stA smA rd wr mk Payload Aside2 DC0)
set_option linter.unusedVariables false
set_option linter.unusedSectionVars false

theorem evA_cell {Sb : Nat → Prop} {n : Nat} {a : Addr} {x s : Bool} (h : a.block < n) (hs : ¬ Sb a.block) : EvP n ⟨.cell a, x, s⟩ ∧ Shy Sb ⟨.cell a, x, s⟩ := ⟨evP_cell a x s h, shy_cell hs⟩
theorem row_live {Wg : Nat} {w : World} (h : WgLive wgL.tWg Wg w) : IsRow w Wg := by
  obtain ⟨st, sm, h⟩ := h
  exact ⟨_, _, _, h⟩
theorem at_size (w : World) (d : Nat) : (w.at d).heap.size = w.heap.size := rfl
theorem t_enter {P : Program} {main : Bool} {γ : Type} {R : γ → World → World → Prop} {D : γ → World → World → Array Event → γ → Prop} {T : γ → Goroutine → World → Prop} {b : Frame} {a : Act} {k : List Item} {cs : List Frame} {y : γ} {w : World} {ops : Array Oper}
    (hT : Clo P main R D T) {i : Nat} {rest : List Nat} {o : Oper} {f : FuncId} {fn : Func} {code : Code} {args : Array Operand} {ats : Array TypeId} (ho : ops[i]? = some o) (hw : Region.wanted o (yielded ops a.tmps) = true) (hk : b.kind ≠ .early) (hs : o.semAt b.roundOf a.eval = execOp a.eval o)
    (hop : o.op = .call { callee := .value (.func f), args, argTypes := ats }) (hf : P.funcs[f]? = some fn) (hname : (fn.name == "runtime.NumGoroutine") = false) (hb : fn.body = some code)
    (h : T y (G (Frame.enter P f (args.map a.eval) .normal) (b.atR a (.inRegion ops (i :: rest) :: k) :: cs)) w) : T y (G (b.atR a (.inRegion ops (i :: rest) :: k)) cs) w := by
  have hb' : fn.body.isNone = false := by rw [hb]; rfl
  refine hT.ctl (g' := G (Frame.enter P f (args.map a.eval) .normal) (b.atR a (.inRegion ops (i :: rest) :: k) :: cs)) rfl (fun w => ?_) h
  rw [sG_enter ho hw hk hs (run_call_body hop hf hname hb')]
  have : listed P b.fn a o w = #[] := by unfold listed; rw [events_call_body hop hf hname hb']; exact seen_none P _
  rw [this]

section
variable {Sb : Nat → Prop} {Post : Value → World → Prop} {A : Option Addr} {c : Nat} {xs : List Int} {v w : World} {fr : Frame} {cs : List Frame}
set_option maxHeartbeats 4000000 in
theorem rootsOf_la (hp : PR Sb v w) (hA : RdA v A xs) (hn : xs.length ≤ 1048577) (hno : mapOkB xs = false ∨ 4 < xs.length → ∀ v' w', PR Sb v' w' → w'.tape = w.tape → Ltr Sb v v' → LA Try.prog Sb Post () (G (fr.finish (.slice none 0 0)) cs) w')
    (hyes : mapOkB xs = true → xs.length ≤ 4 → ∀ (Wg : Nat) (M : Nat → Prop) (v' w' : World) (ad : Option Addr) (cp : Nat), v.heap.size ≤ Wg → (∀ b, M b → v.heap.size ≤ b ∧ b < v'.heap.size ∧ b ≠ Wg) → AllR M (.slice ad (rootsL xs).length cp) (rootsL xs) v' → PR (Sw Sb Wg) v' w' → w'.tape = w.tape → Ltr Sb v v' →
      LA Try.prog (Sw Sb Wg) Post () (G (fr.finish (.slice ad (rootsL xs).length cp)) cs) w') :
    LA Try.prog Sb Post () (G (Frame.enter Try.prog 11 #[.slice A xs.length c] .normal) (fr :: cs)) w := by
  rw [enter_atR _ Try.func11 rfl]
  have hT := clo_la (P := Try.prog) (Sb := Sb) (Post := Post)
  have hk : (base 11).kind ≠ .early := base_kind _
  have hro : (base 11).roundOf = none := rfl
  have hM := fun (v1 w1 : World) (h1 : PR Sb v1 w1) (h : RdA v1 A xs) => callsLA (Post := Post) (f := 40) (by rfl) h1 (fun τ => iMapOk_c A c xs (v1.tp τ 0) h hn) (Res := fun x v' => x = .bool (mapOkB xs) ∧ ∃ τ, v' = v1.tp τ 0) (fun τ e v' h => ⟨_, h.1, rfl, τ, h.2.symm⟩)
  have hB := fun (W : World) (cap : Array Value) (c0 : Frame) (cs : List Frame) => head41_la (Sb := Sb) (Post := Post) (fF := 42) (nn := xs.length) (cap := cap) (w := W) (c0 := c0) (cs := cs)
  have hML := @mapsThat_la
  generalize hT' : LA Try.prog Sb Post = T at hT hM hB hno ⊢
  simp only [Try.ntmps11, List.size_toArray, List.length_cons, List.length_nil, Nat.reduceAdd, Nat.reduceSub, Array.replicate_succ, Array.replicate_zero, List.push_toArray, List.append_toArray, List.nil_append, List.cons_append]
  repeat (first | refine t_seq hT ?_ | refine t_block hT ?_ | refine t_skip hT ?_ | refine t_inBlock hT ?_ | refine t_rend hT ?_ | refine t_exit hT rfl ?_)
  refine t_region hT [0, 1] rfl ?_
  refine t_op hT rfl (by rfl) (by first | decide | assumption) (by first | rfl | (rw [hro]; rfl)) (fun w₁ hR K hK => ?_)
  obtain ⟨d, rfl⟩ := hR
  go_simp
  try (unfold stored; go_simp)
  try go_ints
  refine hK _ _ () (da_nil (listed_nil (by simp [go_sem, *])) (by simp only [alloc_size]; omega)) ?_
  clear hK K
  try simp only [at_alloc, at_set, at_heap]
  refine la_strip hT ?_
  try walk_nrm
  have hp1 := hp.alloc (.cells #[.slice A xs.length c] 22)
  have l1 : Ltr Sb v (v.alloc (.cells #[.slice A xs.length c] 22)) := ltr_alloc v _
  have e1 : (w.alloc (.cells #[.slice A xs.length c] 22)).heap.size = w.heap.size + 1 := alloc_size
  have x1 : (w.alloc (.cells #[.slice A xs.length c] 22)).heap[w.heap.size]? = some (.cells #[.slice A xs.length c] 22) := Array.getElem?_push_size
  have t1 : (w.alloc (.cells #[.slice A xs.length c] 22)).tape = w.tape := rfl
  have hA1 := rdA_ltr hp hA l1
  have hvs := hp.size
  have hNS : ¬ Sb w.heap.size := hp.nsize (by rw [hvs]; exact Nat.le_refl _)
  generalize w.alloc (.cells #[.slice A xs.length c] 22) = W1 at *
  generalize v.alloc (.cells #[.slice A xs.length c] 22) = V1 at *
  have hcl := cell_of_heap (k := 0) (v := .slice A xs.length c) x1 rfl
  refine t_op hT rfl (by rfl) (by first | decide | assumption) (by first | rfl | (rw [hro]; rfl)) (fun w₁ hR K hK => ?_)
  obtain ⟨d, rfl⟩ := hR
  go_simp
  try (unfold stored; go_simp)
  try go_ints
  refine hK _ _ () (da_nil (listed_nil (by simp [go_sem, *])) (Nat.le_refl _)) ?_
  clear hK K
  try simp only [at_alloc, at_set, at_heap]
  refine la_strip hT ?_
  try walk_nrm
  repeat (first | refine t_seq hT ?_ | refine t_block hT ?_ | refine t_skip hT ?_ | refine t_inBlock hT ?_ | refine t_rend hT ?_ | refine t_exit hT rfl ?_)
  refine t_region hT [0, 1, 2, 3, 4, 5, 6, 7] rfl ?_
  refine t_op hT rfl (by rfl) (by first | decide | assumption) (by first | rfl | (rw [hro]; rfl)) (fun w₁ hR K hK => ?_)
  obtain ⟨d, rfl⟩ := hR
  have hcd : (W1.at d).cell? ⟨w.heap.size, 0, none⟩ = _ := hcl
  go_simp
  try (unfold stored; go_simp)
  try go_ints
  refine hK _ _ () (⟨Nat.le_refl _, by co_evs (exact evA_cell (by show w.heap.size < W1.heap.size; omega) hNS)⟩) ?_
  clear hK K
  try simp only [at_alloc, at_set, at_heap]
  refine la_strip hT ?_
  try walk_nrm
  clear hcl
  refine t_call hT rfl (by rfl) (by first | decide | assumption) (by first | rfl | (rw [hro]; rfl)) rfl Try.func40 (by rfl) rfl (by walk_nrm; exact hM V1 W1 hp1 hA1) ?_
  rintro _ ⟨⟩ W2 ⟨ht2, V2, hp2, rfl, τ, rfl⟩
  try walk_nrm
  have x2 : W2.heap[w.heap.size]? = some (.cells #[.slice A xs.length c] 22) := (hp2.same _ hNS).symm.trans ((hp1.same _ hNS).trans x1)
  have e2 : W2.heap.size = w.heap.size + 1 := hp2.size.symm.trans (hp1.size.trans e1)
  have hA2 : RdA (V1.tp τ 0) A xs := hA1
  have l2 : Ltr Sb v (V1.tp τ 0) := ⟨l1.os, l1.output, l1.size, l1.block⟩
  generalize V1.tp τ 0 = V2 at *
  clear hA1 x1 hM hp1 l1
  have hcl := cell_of_heap (k := 0) (v := .slice A xs.length c) x2 rfl
  cases hm : mapOkB xs with
  | false =>
    refine t_op hT rfl (by rfl) (by first | decide | assumption) (by first | rfl | (rw [hro]; rfl)) (fun w₁ hR K hK => ?_)
    obtain ⟨d, rfl⟩ := hR
    go_simp
    try (unfold stored; go_simp)
    try go_ints
    refine hK _ _ () (da_nil (listed_nil (by simp [go_sem, *])) (Nat.le_refl _)) ?_
    clear hK K
    try simp only [at_alloc, at_set, at_heap]
    refine la_strip hT ?_
    try walk_nrm
    refine t_op hT rfl (by rfl) (by first | decide | assumption) (by first | rfl | (rw [hro]; rfl)) (fun w₁ hR K hK => ?_)
    obtain ⟨d, rfl⟩ := hR
    go_simp
    try (unfold stored; go_simp)
    try go_ints
    refine hK _ _ () (da_nil (listed_nil (by simp [go_sem, *])) (Nat.le_refl _)) ?_
    clear hK K
    try simp only [at_alloc, at_set, at_heap]
    refine la_strip hT ?_
    try walk_nrm
    refine t_un hT rfl (by rfl) ?_
    try walk_nrm
    refine t_un hT rfl (by rfl) ?_
    try walk_nrm
    refine t_un hT rfl (by rfl) ?_
    try walk_nrm
    refine t_op hT rfl (by rfl) (by first | decide | assumption) (by first | rfl | (rw [hro]; rfl)) (fun w₁ hR K hK => ?_)
    obtain ⟨d, rfl⟩ := hR
    go_simp
    try (unfold stored; go_simp)
    try go_ints
    refine hK _ _ () (da_nil (listed_nil (by simp [go_sem, *])) (Nat.le_refl _)) ?_
    clear hK K
    try simp only [at_alloc, at_set, at_heap]
    refine la_strip hT ?_
    try walk_nrm
    repeat (first | refine t_seq hT ?_ | refine t_block hT ?_ | refine t_skip hT ?_ | refine t_inBlock hT ?_ | refine t_rend hT ?_ | refine t_exit hT rfl ?_)
    refine t_cond hT (t := _) rfl ?_
    simp only [if_true, if_false, reduceIte, Bool.false_eq_true, *]
    repeat (first | refine t_seq hT ?_ | refine t_block hT ?_ | refine t_skip hT ?_ | refine t_inBlock hT ?_ | refine t_rend hT ?_ | refine t_exit hT rfl ?_)
    refine t_region hT [0] rfl ?_
    refine t_op hT rfl (by rfl) (by first | decide | assumption) (by first | rfl | (rw [hro]; rfl)) (fun w₁ hR K hK => ?_)
    obtain ⟨d, rfl⟩ := hR
    go_simp
    try (unfold stored; go_simp)
    try go_ints
    refine hK _ _ () (da_nil (listed_nil (by simp [go_sem, *])) (Nat.le_refl _)) ?_
    clear hK K
    try simp only [at_alloc, at_set, at_heap]
    refine la_strip hT ?_
    try walk_nrm
    repeat (first | refine t_seq hT ?_ | refine t_block hT ?_ | refine t_skip hT ?_ | refine t_inBlock hT ?_ | refine t_rend hT ?_ | refine t_exit hT rfl ?_)
    subst hT'
    refine t_ret hT rfl rfl rfl Try.func11 (resultsC_tmp (by rfl) _) ?_
    exact hno (.inl hm) _ _ hp2 (ht2.trans t1) l2
  | true =>
    refine t_op hT rfl (by rfl) (by first | decide | assumption) (by first | rfl | (rw [hro]; rfl)) (fun w₁ hR K hK => ?_)
    obtain ⟨d, rfl⟩ := hR
    go_simp
    try (unfold stored; go_simp)
    try go_ints
    refine hK _ _ () (da_nil (listed_nil (by simp [go_sem, *])) (Nat.le_refl _)) ?_
    clear hK K
    try simp only [at_alloc, at_set, at_heap]
    refine la_strip hT ?_
    try walk_nrm
    refine t_op hT rfl (by rfl) (by first | decide | assumption) (by first | rfl | (rw [hro]; rfl)) (fun w₁ hR K hK => ?_)
    obtain ⟨d, rfl⟩ := hR
    go_simp
    try (unfold stored; go_simp)
    try go_ints
    refine hK _ _ () (da_nil (listed_nil (by simp [go_sem, *])) (Nat.le_refl _)) ?_
    clear hK K
    try simp only [at_alloc, at_set, at_heap]
    refine la_strip hT ?_
    try walk_nrm
    refine t_op hT rfl (by rfl) (by first | decide | assumption) (by first | rfl | (rw [hro]; rfl)) (fun w₁ hR K hK => ?_)
    obtain ⟨d, rfl⟩ := hR
    have hcd : (W2.at d).cell? ⟨w.heap.size, 0, none⟩ = _ := hcl
    go_simp
    try (unfold stored; go_simp)
    try go_ints
    refine hK _ _ () (⟨Nat.le_refl _, by co_evs (exact evA_cell (by show w.heap.size < W2.heap.size; omega) hNS)⟩) ?_
    clear hK K
    try simp only [at_alloc, at_set, at_heap]
    refine la_strip hT ?_
    try walk_nrm
    refine t_op hT rfl (by rfl) (by first | decide | assumption) (by first | rfl | (rw [hro]; rfl)) (fun w₁ hR K hK => ?_)
    obtain ⟨d, rfl⟩ := hR
    go_simp
    try (unfold stored; go_simp)
    try go_ints
    refine hK _ _ () (da_nil (listed_nil (by simp [go_sem, *])) (Nat.le_refl _)) ?_
    clear hK K
    try simp only [at_alloc, at_set, at_heap]
    refine la_strip hT ?_
    try walk_nrm
    by_cases h4 : xs.length ≤ 4
    · have hd : decide (4 < (xs.length : Int)) = false := by simp; omega
      refine t_op hT rfl (by rfl) (by first | decide | assumption) (by first | rfl | (rw [hro]; rfl)) (fun w₁ hR K hK => ?_)
      obtain ⟨d, rfl⟩ := hR
      go_simp
      try (unfold stored; go_simp)
      try go_ints
      refine hK _ _ () (da_nil (listed_nil (by simp [go_sem, *])) (Nat.le_refl _)) ?_
      clear hK K
      try simp only [at_alloc, at_set, at_heap]
      refine la_strip hT ?_
      try walk_nrm
      refine t_op hT rfl (by rfl) (by first | decide | assumption) (by first | rfl | (rw [hro]; rfl)) (fun w₁ hR K hK => ?_)
      obtain ⟨d, rfl⟩ := hR
      go_simp
      try (unfold stored; go_simp)
      try go_ints
      refine hK _ _ () (da_nil (listed_nil (by simp [go_sem, *])) (Nat.le_refl _)) ?_
      clear hK K
      try simp only [at_alloc, at_set, at_heap]
      refine la_strip hT ?_
      try walk_nrm
      repeat (first | refine t_seq hT ?_ | refine t_block hT ?_ | refine t_skip hT ?_ | refine t_inBlock hT ?_ | refine t_rend hT ?_ | refine t_exit hT rfl ?_)
      refine t_cond hT (t := _) rfl ?_
      simp only [if_true, if_false, reduceIte, Bool.false_eq_true, *]
      repeat (first | refine t_seq hT ?_ | refine t_block hT ?_ | refine t_skip hT ?_ | refine t_inBlock hT ?_ | refine t_rend hT ?_ | refine t_exit hT rfl ?_)
      refine t_region hT [0, 1, 2, 3, 4] rfl ?_
      refine t_op hT rfl (by rfl) (by first | decide | assumption) (by first | rfl | (rw [hro]; rfl)) (fun w₁ hR K hK => ?_)
      obtain ⟨d, rfl⟩ := hR
      have hcd : (W2.at d).cell? ⟨w.heap.size, 0, none⟩ = _ := hcl
      go_simp
      try (unfold stored; go_simp)
      try go_ints
      refine hK _ _ () (⟨Nat.le_refl _, by co_evs (exact evA_cell (by show w.heap.size < W2.heap.size; omega) hNS)⟩) ?_
      clear hK K
      try simp only [at_alloc, at_set, at_heap]
      refine la_strip hT ?_
      try walk_nrm
      refine t_op hT rfl (by rfl) (by first | decide | assumption) (by first | rfl | (rw [hro]; rfl)) (fun w₁ hR K hK => ?_)
      obtain ⟨d, rfl⟩ := hR
      go_simp
      try (unfold stored; go_simp)
      try go_ints
      refine hK _ _ () (da_nil (listed_nil (by simp [go_sem, *])) (Nat.le_refl _)) ?_
      clear hK K
      try simp only [at_alloc, at_set, at_heap]
      refine la_strip hT ?_
      try walk_nrm
      refine t_op hT rfl (by rfl) (by first | decide | assumption) (by first | rfl | (rw [hro]; rfl)) (fun w₁ hR K hK => ?_)
      obtain ⟨d, rfl⟩ := hR
      go_simp
      try (unfold stored; go_simp)
      try go_ints
      refine hK _ _ () (da_nil (listed_nil (by simp [go_sem, *])) (Nat.le_refl _)) ?_
      clear hK K
      try simp only [at_alloc, at_set, at_heap]
      refine la_strip hT ?_
      try walk_nrm
      have h1 : 1 ≤ xs.length := (mapOkB_elim hm).1.1
      have hnS : ∀ b, W2.heap.size ≤ b → ¬ Sb b := fun b hb => hp2.nsize (by rw [hp2.size]; exact hb)
      have hAS : ∀ ad, A = some ad → ¬ Sb ad.block := fun ad e => by
        obtain ⟨ad2, e3, h3⟩ := hA2 0 (by omega)
        rw [e] at e3
        cases e3
        have := (hp2.cell_some h3).1
        rwa [block_of_add] at this
      refine t_enter hT rfl (by rfl) (by first | decide | assumption) (by first | rfl | (rw [hro]; rfl)) rfl Try.func41 (by rfl) rfl ?_
      walk_nrm
      refine hB W2 _ _ _ (by omega) (fun r hr => by have := hp2.lt r hr; rw [hp2.size] at this; exact this) (fun a w' hLv hk' hsz hq ht hx hg hr => ?_)
      refine hML (Sb := Sb) (Wg := W2.heap.size + 2) (C := W2.heap.size + 3) (bT := W2.heap.size) (bX := W2.heap.size + 1) (SF := fun b => b < W2.heap.size ∧ ¬ Sb b) (Fq := fun W => ∀ b, b < W2.heap.size → ¬ Sb b → W.heap[b]? = W2.heap[b]?) (p := fun g => decide (behindL g g = xs)) (Rj := rowsOf xs.length)
        (tst_rootsS h1 h4 rfl (by omega) hNS x2 (rdA_true hp2 hA2) hAS) (Nat.le_trans (thatL_len h4) (by omega)) hLv ?_ (fun b hb => ?_) (fun b hb => (hp2.row b hb).of (hk' b ?_)) hg (Nat.le_refl _) (fun M wd ad cp hMl hAll hF hKp hsz2 hlive hrow => ?_)
      · refine ⟨fun b hb => hb.elim False.elim (·.1), ⟨by omega, by omega, hnS _ (by omega)⟩, id, id, fun h => h.2.1 rfl, ⟨0, 0, hg⟩, ⟨_, hr, madeCells_size _ _⟩, fun i c ls hi => by simp at hi, ⟨.inr ⟨by omega, by omega, hnS _ (by omega)⟩, by omega⟩, ht, ⟨.inr ⟨by omega, by omega, hnS _ (by omega)⟩, by omega⟩, cell_of_heap (k := 0) hx rfl, fun b hb => ⟨⟨by have := hb.1; omega, by have := hb.1; omega, hb.2⟩, by have := hb.1; omega⟩, fun b hb _ => hk' b hb, fun b hb => hb.elim⟩
      · have := Nat.lt_of_not_le fun h => hnS b h hb
        exact ⟨by omega, by omega, by omega⟩
      · exact Nat.lt_of_not_le fun h => hnS b h hb
      · clear hT hB hML hno
        have hT := clo_la (P := Try.prog) (Sb := Sw Sb (W2.heap.size + 2)) (Post := Post)
        obtain ⟨V3, hp3⟩ := pr_exists (Sb := Sw Sb (W2.heap.size + 2)) (w := wd) (fun r hr => hr.elim (hrow r) fun e => by rw [e]; exact row_live hlive)
        have hy := hyes hm h4 (W2.heap.size + 2) M V3 wd ad cp (by omega) (fun b hb => ?_) (hAll.heap (fun b hb => hp3.same b fun hs => ?_) fun _ h => h) hp3 (hKp.1.trans (hq.1.trans (ht2.trans t1))) ⟨?_, ?_, ?_, fun b hb hs => ?_⟩
        · change LA Try.prog (Sw Sb (W2.heap.size + 2)) Post () (G (fr.finish (.slice ad ((rowsFrom (fun g => decide (behindL g g = xs)) (rowsOf xs.length) 0 xs.length).flatten).length cp)) cs) wd at hy
          generalize ((rowsFrom (fun g => decide (behindL g g = xs)) (rowsOf xs.length) 0 xs.length).flatten).length = m at *
          generalize LA Try.prog (Sw Sb (W2.heap.size + 2)) Post = T2 at hT hy ⊢
          rw [Frame.finish_atR]
          try walk_nrm
          refine t_op hT rfl (by rfl) (by first | decide | assumption) (by first | rfl | (rw [hro]; rfl)) (fun w₁ hR K hK => ?_)
          obtain ⟨d, rfl⟩ := hR
          go_simp
          try (unfold stored; go_simp)
          try go_ints
          refine hK _ _ () (da_nil (listed_nil (by simp [go_sem, *])) (Nat.le_refl _)) ?_
          clear hK K
          try simp only [at_alloc, at_set, at_heap]
          refine la_strip hT ?_
          try walk_nrm
          repeat (first | refine t_seq hT ?_ | refine t_block hT ?_ | refine t_skip hT ?_ | refine t_inBlock hT ?_ | refine t_rend hT ?_ | refine t_exit hT rfl ?_)
          refine t_ret hT rfl rfl rfl Try.func11 (resultsC_tmp (by rfl) _) ?_
          exact hy
        · have := hMl b hb
          rw [hp3.size]
          exact ⟨by omega, by omega, by omega⟩
        · have := hMl b hb
          rcases hs with hs | hs
          · exact hnS b (by omega) hs
          · omega
        · exact hp3.os.trans (hKp.2.1.trans (hq.2.1.trans (hp2.os.symm.trans l2.os)))
        · exact hp3.output.trans (hKp.2.2.trans (hq.2.2.trans (hp2.output.symm.trans l2.output)))
        · rw [hp3.size]; omega
        · have hb2 : b < W2.heap.size := by omega
          exact (hp3.same b fun h => h.elim hs fun h => by omega).trans ((hF b hb2 hs).trans ((hp2.same b hs).symm.trans (l2.block b hb hs)))
    · have hd : decide (4 < (xs.length : Int)) = true := by simp; omega
      refine t_op hT rfl (by rfl) (by first | decide | assumption) (by first | rfl | (rw [hro]; rfl)) (fun w₁ hR K hK => ?_)
      obtain ⟨d, rfl⟩ := hR
      go_simp
      try (unfold stored; go_simp)
      try go_ints
      refine hK _ _ () (da_nil (listed_nil (by simp [go_sem, *])) (Nat.le_refl _)) ?_
      clear hK K
      try simp only [at_alloc, at_set, at_heap]
      refine la_strip hT ?_
      try walk_nrm
      refine t_op hT rfl (by rfl) (by first | decide | assumption) (by first | rfl | (rw [hro]; rfl)) (fun w₁ hR K hK => ?_)
      obtain ⟨d, rfl⟩ := hR
      go_simp
      try (unfold stored; go_simp)
      try go_ints
      refine hK _ _ () (da_nil (listed_nil (by simp [go_sem, *])) (Nat.le_refl _)) ?_
      clear hK K
      try simp only [at_alloc, at_set, at_heap]
      refine la_strip hT ?_
      try walk_nrm
      repeat (first | refine t_seq hT ?_ | refine t_block hT ?_ | refine t_skip hT ?_ | refine t_inBlock hT ?_ | refine t_rend hT ?_ | refine t_exit hT rfl ?_)
      refine t_cond hT (t := _) rfl ?_
      simp only [if_true, if_false, reduceIte, Bool.false_eq_true, *]
      repeat (first | refine t_seq hT ?_ | refine t_block hT ?_ | refine t_skip hT ?_ | refine t_inBlock hT ?_ | refine t_rend hT ?_ | refine t_exit hT rfl ?_)
      refine t_region hT [0] rfl ?_
      refine t_op hT rfl (by rfl) (by first | decide | assumption) (by first | rfl | (rw [hro]; rfl)) (fun w₁ hR K hK => ?_)
      obtain ⟨d, rfl⟩ := hR
      go_simp
      try (unfold stored; go_simp)
      try go_ints
      refine hK _ _ () (da_nil (listed_nil (by simp [go_sem, *])) (Nat.le_refl _)) ?_
      clear hK K
      try simp only [at_alloc, at_set, at_heap]
      refine la_strip hT ?_
      try walk_nrm
      repeat (first | refine t_seq hT ?_ | refine t_block hT ?_ | refine t_skip hT ?_ | refine t_inBlock hT ?_ | refine t_rend hT ?_ | refine t_exit hT rfl ?_)
      subst hT'
      refine t_ret hT rfl rfl rfl Try.func11 (resultsC_tmp (by rfl) _) ?_
      exact hno (.inr (by omega)) _ _ hp2 (ht2.trans t1) l2
end

section
variable {Sb : Nat → Prop} {Post : Value → World → Prop} {A : Option Addr} {c : Nat} {xs : List Int} {v w : World} {fr : Frame} {cs : List Frame}
set_option maxHeartbeats 4000000 in
theorem allWith_la (hp : PR Sb v w) (hA : RdA v A xs) (hn : xs.length ≤ 1048577) (hno : mapOkB xs = false ∨ 4 < xs.length → ∀ v' w', PR Sb v' w' → w'.tape = w.tape → Ltr Sb v v' → LA Try.prog Sb Post () (G (fr.finish (.slice none 0 0)) cs) w')
    (hyes : mapOkB xs = true → xs.length ≤ 4 → ∀ (Wg : Nat) (M : Nat → Prop) (v' w' : World) (ad : Option Addr) (cp : Nat), v.heap.size ≤ Wg → (∀ b, M b → v.heap.size ≤ b ∧ b < v'.heap.size ∧ b ≠ Wg) → AllR M (.slice ad (withL xs).length cp) (withL xs) v' → PR (Sw Sb Wg) v' w' → w'.tape = w.tape → Ltr Sb v v' →
      LA Try.prog (Sw Sb Wg) Post () (G (fr.finish (.slice ad (withL xs).length cp)) cs) w') :
    LA Try.prog Sb Post () (G (Frame.enter Try.prog 18 #[.slice A xs.length c] .normal) (fr :: cs)) w := by
  rw [enter_atR _ Try.func18 rfl]
  have hT := clo_la (P := Try.prog) (Sb := Sb) (Post := Post)
  have hk : (base 18).kind ≠ .early := base_kind _
  have hro : (base 18).roundOf = none := rfl
  have hM := fun (v1 w1 : World) (h1 : PR Sb v1 w1) (h : RdA v1 A xs) => callsLA (Post := Post) (f := 40) (by rfl) h1 (fun τ => iMapOk_c A c xs (v1.tp τ 0) h hn) (Res := fun x v' => x = .bool (mapOkB xs) ∧ ∃ τ, v' = v1.tp τ 0) (fun τ e v' h => ⟨_, h.1, rfl, τ, h.2.symm⟩)
  have hB := fun (W : World) (cap : Array Value) (c0 : Frame) (cs : List Frame) => head41_la (Sb := Sb) (Post := Post) (fF := 46) (nn := xs.length) (cap := cap) (w := W) (c0 := c0) (cs := cs)
  have hML := @mapsThat_la
  generalize hT' : LA Try.prog Sb Post = T at hT hM hB hno ⊢
  simp only [Try.ntmps18, List.size_toArray, List.length_cons, List.length_nil, Nat.reduceAdd, Nat.reduceSub, Array.replicate_succ, Array.replicate_zero, List.push_toArray, List.append_toArray, List.nil_append, List.cons_append]
  repeat (first | refine t_seq hT ?_ | refine t_block hT ?_ | refine t_skip hT ?_ | refine t_inBlock hT ?_ | refine t_rend hT ?_ | refine t_exit hT rfl ?_)
  refine t_region hT [0, 1] rfl ?_
  refine t_op hT rfl (by rfl) (by first | decide | assumption) (by first | rfl | (rw [hro]; rfl)) (fun w₁ hR K hK => ?_)
  obtain ⟨d, rfl⟩ := hR
  go_simp
  try (unfold stored; go_simp)
  try go_ints
  refine hK _ _ () (da_nil (listed_nil (by simp [go_sem, *])) (by simp only [alloc_size]; omega)) ?_
  clear hK K
  try simp only [at_alloc, at_set, at_heap]
  refine la_strip hT ?_
  try walk_nrm
  have hp1 := hp.alloc (.cells #[.slice A xs.length c] 22)
  have l1 : Ltr Sb v (v.alloc (.cells #[.slice A xs.length c] 22)) := ltr_alloc v _
  have e1 : (w.alloc (.cells #[.slice A xs.length c] 22)).heap.size = w.heap.size + 1 := alloc_size
  have x1 : (w.alloc (.cells #[.slice A xs.length c] 22)).heap[w.heap.size]? = some (.cells #[.slice A xs.length c] 22) := Array.getElem?_push_size
  have t1 : (w.alloc (.cells #[.slice A xs.length c] 22)).tape = w.tape := rfl
  have hA1 := rdA_ltr hp hA l1
  have hvs := hp.size
  have hNS : ¬ Sb w.heap.size := hp.nsize (by rw [hvs]; exact Nat.le_refl _)
  generalize w.alloc (.cells #[.slice A xs.length c] 22) = W1 at *
  generalize v.alloc (.cells #[.slice A xs.length c] 22) = V1 at *
  have hcl := cell_of_heap (k := 0) (v := .slice A xs.length c) x1 rfl
  refine t_op hT rfl (by rfl) (by first | decide | assumption) (by first | rfl | (rw [hro]; rfl)) (fun w₁ hR K hK => ?_)
  obtain ⟨d, rfl⟩ := hR
  go_simp
  try (unfold stored; go_simp)
  try go_ints
  refine hK _ _ () (da_nil (listed_nil (by simp [go_sem, *])) (Nat.le_refl _)) ?_
  clear hK K
  try simp only [at_alloc, at_set, at_heap]
  refine la_strip hT ?_
  try walk_nrm
  repeat (first | refine t_seq hT ?_ | refine t_block hT ?_ | refine t_skip hT ?_ | refine t_inBlock hT ?_ | refine t_rend hT ?_ | refine t_exit hT rfl ?_)
  refine t_region hT [0, 1, 2, 3, 4, 5, 6, 7] rfl ?_
  refine t_op hT rfl (by rfl) (by first | decide | assumption) (by first | rfl | (rw [hro]; rfl)) (fun w₁ hR K hK => ?_)
  obtain ⟨d, rfl⟩ := hR
  have hcd : (W1.at d).cell? ⟨w.heap.size, 0, none⟩ = _ := hcl
  go_simp
  try (unfold stored; go_simp)
  try go_ints
  refine hK _ _ () (⟨Nat.le_refl _, by co_evs (exact evA_cell (by show w.heap.size < W1.heap.size; omega) hNS)⟩) ?_
  clear hK K
  try simp only [at_alloc, at_set, at_heap]
  refine la_strip hT ?_
  try walk_nrm
  clear hcl
  refine t_call hT rfl (by rfl) (by first | decide | assumption) (by first | rfl | (rw [hro]; rfl)) rfl Try.func40 (by rfl) rfl (by walk_nrm; exact hM V1 W1 hp1 hA1) ?_
  rintro _ ⟨⟩ W2 ⟨ht2, V2, hp2, rfl, τ, rfl⟩
  try walk_nrm
  have x2 : W2.heap[w.heap.size]? = some (.cells #[.slice A xs.length c] 22) := (hp2.same _ hNS).symm.trans ((hp1.same _ hNS).trans x1)
  have e2 : W2.heap.size = w.heap.size + 1 := hp2.size.symm.trans (hp1.size.trans e1)
  have hA2 : RdA (V1.tp τ 0) A xs := hA1
  have l2 : Ltr Sb v (V1.tp τ 0) := ⟨l1.os, l1.output, l1.size, l1.block⟩
  generalize V1.tp τ 0 = V2 at *
  clear hA1 x1 hM hp1 l1
  have hcl := cell_of_heap (k := 0) (v := .slice A xs.length c) x2 rfl
  cases hm : mapOkB xs with
  | false =>
    refine t_op hT rfl (by rfl) (by first | decide | assumption) (by first | rfl | (rw [hro]; rfl)) (fun w₁ hR K hK => ?_)
    obtain ⟨d, rfl⟩ := hR
    go_simp
    try (unfold stored; go_simp)
    try go_ints
    refine hK _ _ () (da_nil (listed_nil (by simp [go_sem, *])) (Nat.le_refl _)) ?_
    clear hK K
    try simp only [at_alloc, at_set, at_heap]
    refine la_strip hT ?_
    try walk_nrm
    refine t_op hT rfl (by rfl) (by first | decide | assumption) (by first | rfl | (rw [hro]; rfl)) (fun w₁ hR K hK => ?_)
    obtain ⟨d, rfl⟩ := hR
    go_simp
    try (unfold stored; go_simp)
    try go_ints
    refine hK _ _ () (da_nil (listed_nil (by simp [go_sem, *])) (Nat.le_refl _)) ?_
    clear hK K
    try simp only [at_alloc, at_set, at_heap]
    refine la_strip hT ?_
    try walk_nrm
    refine t_un hT rfl (by rfl) ?_
    try walk_nrm
    refine t_un hT rfl (by rfl) ?_
    try walk_nrm
    refine t_un hT rfl (by rfl) ?_
    try walk_nrm
    refine t_op hT rfl (by rfl) (by first | decide | assumption) (by first | rfl | (rw [hro]; rfl)) (fun w₁ hR K hK => ?_)
    obtain ⟨d, rfl⟩ := hR
    go_simp
    try (unfold stored; go_simp)
    try go_ints
    refine hK _ _ () (da_nil (listed_nil (by simp [go_sem, *])) (Nat.le_refl _)) ?_
    clear hK K
    try simp only [at_alloc, at_set, at_heap]
    refine la_strip hT ?_
    try walk_nrm
    repeat (first | refine t_seq hT ?_ | refine t_block hT ?_ | refine t_skip hT ?_ | refine t_inBlock hT ?_ | refine t_rend hT ?_ | refine t_exit hT rfl ?_)
    refine t_cond hT (t := _) rfl ?_
    simp only [if_true, if_false, reduceIte, Bool.false_eq_true, *]
    repeat (first | refine t_seq hT ?_ | refine t_block hT ?_ | refine t_skip hT ?_ | refine t_inBlock hT ?_ | refine t_rend hT ?_ | refine t_exit hT rfl ?_)
    refine t_region hT [0] rfl ?_
    refine t_op hT rfl (by rfl) (by first | decide | assumption) (by first | rfl | (rw [hro]; rfl)) (fun w₁ hR K hK => ?_)
    obtain ⟨d, rfl⟩ := hR
    go_simp
    try (unfold stored; go_simp)
    try go_ints
    refine hK _ _ () (da_nil (listed_nil (by simp [go_sem, *])) (Nat.le_refl _)) ?_
    clear hK K
    try simp only [at_alloc, at_set, at_heap]
    refine la_strip hT ?_
    try walk_nrm
    repeat (first | refine t_seq hT ?_ | refine t_block hT ?_ | refine t_skip hT ?_ | refine t_inBlock hT ?_ | refine t_rend hT ?_ | refine t_exit hT rfl ?_)
    subst hT'
    refine t_ret hT rfl rfl rfl Try.func18 (resultsC_tmp (by rfl) _) ?_
    exact hno (.inl hm) _ _ hp2 (ht2.trans t1) l2
  | true =>
    refine t_op hT rfl (by rfl) (by first | decide | assumption) (by first | rfl | (rw [hro]; rfl)) (fun w₁ hR K hK => ?_)
    obtain ⟨d, rfl⟩ := hR
    go_simp
    try (unfold stored; go_simp)
    try go_ints
    refine hK _ _ () (da_nil (listed_nil (by simp [go_sem, *])) (Nat.le_refl _)) ?_
    clear hK K
    try simp only [at_alloc, at_set, at_heap]
    refine la_strip hT ?_
    try walk_nrm
    refine t_op hT rfl (by rfl) (by first | decide | assumption) (by first | rfl | (rw [hro]; rfl)) (fun w₁ hR K hK => ?_)
    obtain ⟨d, rfl⟩ := hR
    go_simp
    try (unfold stored; go_simp)
    try go_ints
    refine hK _ _ () (da_nil (listed_nil (by simp [go_sem, *])) (Nat.le_refl _)) ?_
    clear hK K
    try simp only [at_alloc, at_set, at_heap]
    refine la_strip hT ?_
    try walk_nrm
    refine t_op hT rfl (by rfl) (by first | decide | assumption) (by first | rfl | (rw [hro]; rfl)) (fun w₁ hR K hK => ?_)
    obtain ⟨d, rfl⟩ := hR
    have hcd : (W2.at d).cell? ⟨w.heap.size, 0, none⟩ = _ := hcl
    go_simp
    try (unfold stored; go_simp)
    try go_ints
    refine hK _ _ () (⟨Nat.le_refl _, by co_evs (exact evA_cell (by show w.heap.size < W2.heap.size; omega) hNS)⟩) ?_
    clear hK K
    try simp only [at_alloc, at_set, at_heap]
    refine la_strip hT ?_
    try walk_nrm
    refine t_op hT rfl (by rfl) (by first | decide | assumption) (by first | rfl | (rw [hro]; rfl)) (fun w₁ hR K hK => ?_)
    obtain ⟨d, rfl⟩ := hR
    go_simp
    try (unfold stored; go_simp)
    try go_ints
    refine hK _ _ () (da_nil (listed_nil (by simp [go_sem, *])) (Nat.le_refl _)) ?_
    clear hK K
    try simp only [at_alloc, at_set, at_heap]
    refine la_strip hT ?_
    try walk_nrm
    by_cases h4 : xs.length ≤ 4
    · have hd : decide (4 < (xs.length : Int)) = false := by simp; omega
      refine t_op hT rfl (by rfl) (by first | decide | assumption) (by first | rfl | (rw [hro]; rfl)) (fun w₁ hR K hK => ?_)
      obtain ⟨d, rfl⟩ := hR
      go_simp
      try (unfold stored; go_simp)
      try go_ints
      refine hK _ _ () (da_nil (listed_nil (by simp [go_sem, *])) (Nat.le_refl _)) ?_
      clear hK K
      try simp only [at_alloc, at_set, at_heap]
      refine la_strip hT ?_
      try walk_nrm
      refine t_op hT rfl (by rfl) (by first | decide | assumption) (by first | rfl | (rw [hro]; rfl)) (fun w₁ hR K hK => ?_)
      obtain ⟨d, rfl⟩ := hR
      go_simp
      try (unfold stored; go_simp)
      try go_ints
      refine hK _ _ () (da_nil (listed_nil (by simp [go_sem, *])) (Nat.le_refl _)) ?_
      clear hK K
      try simp only [at_alloc, at_set, at_heap]
      refine la_strip hT ?_
      try walk_nrm
      repeat (first | refine t_seq hT ?_ | refine t_block hT ?_ | refine t_skip hT ?_ | refine t_inBlock hT ?_ | refine t_rend hT ?_ | refine t_exit hT rfl ?_)
      refine t_cond hT (t := _) rfl ?_
      simp only [if_true, if_false, reduceIte, Bool.false_eq_true, *]
      repeat (first | refine t_seq hT ?_ | refine t_block hT ?_ | refine t_skip hT ?_ | refine t_inBlock hT ?_ | refine t_rend hT ?_ | refine t_exit hT rfl ?_)
      refine t_region hT [0, 1, 2, 3, 4] rfl ?_
      refine t_op hT rfl (by rfl) (by first | decide | assumption) (by first | rfl | (rw [hro]; rfl)) (fun w₁ hR K hK => ?_)
      obtain ⟨d, rfl⟩ := hR
      have hcd : (W2.at d).cell? ⟨w.heap.size, 0, none⟩ = _ := hcl
      go_simp
      try (unfold stored; go_simp)
      try go_ints
      refine hK _ _ () (⟨Nat.le_refl _, by co_evs (exact evA_cell (by show w.heap.size < W2.heap.size; omega) hNS)⟩) ?_
      clear hK K
      try simp only [at_alloc, at_set, at_heap]
      refine la_strip hT ?_
      try walk_nrm
      refine t_op hT rfl (by rfl) (by first | decide | assumption) (by first | rfl | (rw [hro]; rfl)) (fun w₁ hR K hK => ?_)
      obtain ⟨d, rfl⟩ := hR
      go_simp
      try (unfold stored; go_simp)
      try go_ints
      refine hK _ _ () (da_nil (listed_nil (by simp [go_sem, *])) (Nat.le_refl _)) ?_
      clear hK K
      try simp only [at_alloc, at_set, at_heap]
      refine la_strip hT ?_
      try walk_nrm
      refine t_op hT rfl (by rfl) (by first | decide | assumption) (by first | rfl | (rw [hro]; rfl)) (fun w₁ hR K hK => ?_)
      obtain ⟨d, rfl⟩ := hR
      go_simp
      try (unfold stored; go_simp)
      try go_ints
      refine hK _ _ () (da_nil (listed_nil (by simp [go_sem, *])) (Nat.le_refl _)) ?_
      clear hK K
      try simp only [at_alloc, at_set, at_heap]
      refine la_strip hT ?_
      try walk_nrm
      have h1 : 1 ≤ xs.length := (mapOkB_elim hm).1.1
      have hnS : ∀ b, W2.heap.size ≤ b → ¬ Sb b := fun b hb => hp2.nsize (by rw [hp2.size]; exact hb)
      have hAS : ∀ ad, A = some ad → ¬ Sb ad.block := fun ad e => by
        obtain ⟨ad2, e3, h3⟩ := hA2 0 (by omega)
        rw [e] at e3
        cases e3
        have := (hp2.cell_some h3).1
        rwa [block_of_add] at this
      refine t_enter hT rfl (by rfl) (by first | decide | assumption) (by first | rfl | (rw [hro]; rfl)) rfl Try.func41 (by rfl) rfl ?_
      walk_nrm
      refine hB W2 _ _ _ (by omega) (fun r hr => by have := hp2.lt r hr; rw [hp2.size] at this; exact this) (fun a w' hLv hk' hsz hq ht hx hg hr => ?_)
      refine hML (Sb := Sb) (Wg := W2.heap.size + 2) (C := W2.heap.size + 3) (bT := W2.heap.size) (bX := W2.heap.size + 1) (SF := fun b => b < W2.heap.size ∧ ¬ Sb b) (Fq := fun W => ∀ b, b < W2.heap.size → ¬ Sb b → W.heap[b]? = W2.heap[b]?) (p := fun g => decide (behindL xs g ≠ [] ∧ behindL xs g = behindL g xs)) (Rj := rowsOf xs.length)
        (tst_withS h1 h4 rfl (by omega) hNS x2 (rdA_true hp2 hA2) hAS) (Nat.le_trans (thatL_len h4) (by omega)) hLv ?_ (fun b hb => ?_) (fun b hb => (hp2.row b hb).of (hk' b ?_)) hg (Nat.le_refl _) (fun M wd ad cp hMl hAll hF hKp hsz2 hlive hrow => ?_)
      · refine ⟨fun b hb => hb.elim False.elim (·.1), ⟨by omega, by omega, hnS _ (by omega)⟩, id, id, fun h => h.2.1 rfl, ⟨0, 0, hg⟩, ⟨_, hr, madeCells_size _ _⟩, fun i c ls hi => by simp at hi, ⟨.inr ⟨by omega, by omega, hnS _ (by omega)⟩, by omega⟩, ht, ⟨.inr ⟨by omega, by omega, hnS _ (by omega)⟩, by omega⟩, cell_of_heap (k := 0) hx rfl, fun b hb => ⟨⟨by have := hb.1; omega, by have := hb.1; omega, hb.2⟩, by have := hb.1; omega⟩, fun b hb _ => hk' b hb, fun b hb => hb.elim⟩
      · have := Nat.lt_of_not_le fun h => hnS b h hb
        exact ⟨by omega, by omega, by omega⟩
      · exact Nat.lt_of_not_le fun h => hnS b h hb
      · clear hT hB hML hno
        have hT := clo_la (P := Try.prog) (Sb := Sw Sb (W2.heap.size + 2)) (Post := Post)
        obtain ⟨V3, hp3⟩ := pr_exists (Sb := Sw Sb (W2.heap.size + 2)) (w := wd) (fun r hr => hr.elim (hrow r) fun e => by rw [e]; exact row_live hlive)
        have hy := hyes hm h4 (W2.heap.size + 2) M V3 wd ad cp (by omega) (fun b hb => ?_) (hAll.heap (fun b hb => hp3.same b fun hs => ?_) fun _ h => h) hp3 (hKp.1.trans (hq.1.trans (ht2.trans t1))) ⟨?_, ?_, ?_, fun b hb hs => ?_⟩
        · change LA Try.prog (Sw Sb (W2.heap.size + 2)) Post () (G (fr.finish (.slice ad ((rowsFrom (fun g => decide (behindL xs g ≠ [] ∧ behindL xs g = behindL g xs)) (rowsOf xs.length) 0 xs.length).flatten).length cp)) cs) wd at hy
          generalize ((rowsFrom (fun g => decide (behindL xs g ≠ [] ∧ behindL xs g = behindL g xs)) (rowsOf xs.length) 0 xs.length).flatten).length = m at *
          generalize LA Try.prog (Sw Sb (W2.heap.size + 2)) Post = T2 at hT hy ⊢
          rw [Frame.finish_atR]
          try walk_nrm
          refine t_op hT rfl (by rfl) (by first | decide | assumption) (by first | rfl | (rw [hro]; rfl)) (fun w₁ hR K hK => ?_)
          obtain ⟨d, rfl⟩ := hR
          go_simp
          try (unfold stored; go_simp)
          try go_ints
          refine hK _ _ () (da_nil (listed_nil (by simp [go_sem, *])) (Nat.le_refl _)) ?_
          clear hK K
          try simp only [at_alloc, at_set, at_heap]
          refine la_strip hT ?_
          try walk_nrm
          repeat (first | refine t_seq hT ?_ | refine t_block hT ?_ | refine t_skip hT ?_ | refine t_inBlock hT ?_ | refine t_rend hT ?_ | refine t_exit hT rfl ?_)
          refine t_ret hT rfl rfl rfl Try.func18 (resultsC_tmp (by rfl) _) ?_
          exact hy
        · have := hMl b hb
          rw [hp3.size]
          exact ⟨by omega, by omega, by omega⟩
        · have := hMl b hb
          rcases hs with hs | hs
          · exact hnS b (by omega) hs
          · omega
        · exact hp3.os.trans (hKp.2.1.trans (hq.2.1.trans (hp2.os.symm.trans l2.os)))
        · exact hp3.output.trans (hKp.2.2.trans (hq.2.2.trans (hp2.output.symm.trans l2.output)))
        · rw [hp3.size]; omega
        · have hb2 : b < W2.heap.size := by omega
          exact (hp3.same b fun h => h.elim hs fun h => by omega).trans ((hF b hb2 hs).trans ((hp2.same b hs).symm.trans (l2.block b hb hs)))
    · have hd : decide (4 < (xs.length : Int)) = true := by simp; omega
      refine t_op hT rfl (by rfl) (by first | decide | assumption) (by first | rfl | (rw [hro]; rfl)) (fun w₁ hR K hK => ?_)
      obtain ⟨d, rfl⟩ := hR
      go_simp
      try (unfold stored; go_simp)
      try go_ints
      refine hK _ _ () (da_nil (listed_nil (by simp [go_sem, *])) (Nat.le_refl _)) ?_
      clear hK K
      try simp only [at_alloc, at_set, at_heap]
      refine la_strip hT ?_
      try walk_nrm
      refine t_op hT rfl (by rfl) (by first | decide | assumption) (by first | rfl | (rw [hro]; rfl)) (fun w₁ hR K hK => ?_)
      obtain ⟨d, rfl⟩ := hR
      go_simp
      try (unfold stored; go_simp)
      try go_ints
      refine hK _ _ () (da_nil (listed_nil (by simp [go_sem, *])) (Nat.le_refl _)) ?_
      clear hK K
      try simp only [at_alloc, at_set, at_heap]
      refine la_strip hT ?_
      try walk_nrm
      repeat (first | refine t_seq hT ?_ | refine t_block hT ?_ | refine t_skip hT ?_ | refine t_inBlock hT ?_ | refine t_rend hT ?_ | refine t_exit hT rfl ?_)
      refine t_cond hT (t := _) rfl ?_
      simp only [if_true, if_false, reduceIte, Bool.false_eq_true, *]
      repeat (first | refine t_seq hT ?_ | refine t_block hT ?_ | refine t_skip hT ?_ | refine t_inBlock hT ?_ | refine t_rend hT ?_ | refine t_exit hT rfl ?_)
      refine t_region hT [0] rfl ?_
      refine t_op hT rfl (by rfl) (by first | decide | assumption) (by first | rfl | (rw [hro]; rfl)) (fun w₁ hR K hK => ?_)
      obtain ⟨d, rfl⟩ := hR
      go_simp
      try (unfold stored; go_simp)
      try go_ints
      refine hK _ _ () (da_nil (listed_nil (by simp [go_sem, *])) (Nat.le_refl _)) ?_
      clear hK K
      try simp only [at_alloc, at_set, at_heap]
      refine la_strip hT ?_
      try walk_nrm
      repeat (first | refine t_seq hT ?_ | refine t_block hT ?_ | refine t_skip hT ?_ | refine t_inBlock hT ?_ | refine t_rend hT ?_ | refine t_exit hT rfl ?_)
      subst hT'
      refine t_ret hT rfl rfl rfl Try.func18 (resultsC_tmp (by rfl) _) ?_
      exact hno (.inr (by omega)) _ _ hp2 (ht2.trans t1) l2
end
end Go.Proofs.Ytkbfcaaihellfaa

/- Words for rows of slices of integers. -/
namespace Go.Proofs.Ytkbfcaaihellfaa
open Go.RowKit
set_option linter.unusedVariables false

def gl (xss : List (List Int)) (k : Nat) : List Int := xss.getD k []
/-- the slice v is the call's own and holds the values vs, slices themselves -/
def RowR (B : Nat) (w : World) (v : Value) (vs : List Value) : Prop := w.ownsRow B 22 1 v vs.length vs
def Els (B : Nat) (w : World) (vs : List Value) (xss : List (List Int)) : Prop :=
  vs.length = xss.length ∧ ∀ k, k < xss.length → ∃ A c, vs[k]? = some (.slice A (gl xss k).length c) ∧ Own B w (.slice A (gl xss k).length c) (gl xss k)
def OwnRR (B : Nat) (w : World) (v : Value) (xss : List (List Int)) : Prop := ∃ vs, RowR B w v vs ∧ Els B w vs xss

theorem own_apart_row {B B' : Nat} {w : World} {u v : Value} {xs : List Int} {vs : List Value} (h : Own B w u xs) (hr : RowR B' w v vs) : u.ownBlock = none ∨ u.ownBlock ≠ v.ownBlock := by
  rcases h.2 with ⟨rfl, _⟩ | ⟨g, cap, cur, rfl, _, hb, _⟩
  · exact .inl rfl
  · refine .inr ?_
    rcases hr.2 with ⟨rfl, _⟩ | ⟨g', cap', cur', rfl, _, hb', _⟩
    · simp [Value.ownBlock]
    · intro e
      obtain rfl : g = g' := by simpa [Value.ownBlock] using e
      rw [hb] at hb'
      simp at hb'
theorem Els.kept {B : Nat} {w w' : World} {vs : List Value} {xss : List (List Int)} {row : Option Nat} (h : Els B w vs xss) (hg : w.grownBy w' row) (hne : ∀ u xs, Own B w u xs → u.ownBlock = none ∨ u.ownBlock ≠ row) : Els B w' vs xss :=
  ⟨h.1, fun k hk => by
    obtain ⟨A, c, e, ho⟩ := h.2 k hk
    exact ⟨A, c, e, ho.kept hg (hne _ _ ho)⟩⟩
theorem OwnRR.below {B : Nat} {w w' : World} {v : Value} {xss : List (List Int)} (h : OwnRR B w v xss) (hb : Below w.heap.size w w') : OwnRR B w' v xss := by
  obtain ⟨vs, hr, hl, he⟩ := h
  refine ⟨vs, ?_, hl, fun k hk => ?_⟩
  · rcases hv : v.ownBlock with _ | g
    · exact World.ownsRow.kept hr (grown_of_below hb none) (.inl hv)
    · exact World.ownsRow.kept hr (grown_of_below hb none) (.inr (by rw [hv]; simp))
  · obtain ⟨A, c, e, ho⟩ := he k hk
    exact ⟨A, c, e, ho.below hb⟩
theorem OwnRR.mono {B B' : Nat} {w : World} {v : Value} {xss : List (List Int)} (h : OwnRR B w v xss) (hB : B' ≤ B) : OwnRR B' w v xss := by
  obtain ⟨vs, hr, hl, he⟩ := h
  refine ⟨vs, ⟨hr.1, ?_⟩, hl, fun k hk => ?_⟩
  · rcases hr.2 with h2 | ⟨g, cap, cur, hv, hg, r⟩
    · exact .inl h2
    · exact .inr ⟨g, cap, cur, hv, Nat.le_trans hB hg, r⟩
  · obtain ⟨A, c, e, ho⟩ := he k hk
    exact ⟨A, c, e, ho.mono hB⟩
theorem OwnRR.drew {B : Nat} {w : World} {v : Value} {xss : List (List Int)} (h : OwnRR B w v xss) : OwnRR B w.drew v xss := h.below (Below.refl _ _).drew
theorem OwnRR.alloc {B : Nat} {w : World} {v : Value} {xss : List (List Int)} (h : OwnRR B w v xss) (o : Obj) : OwnRR B (w.alloc o) v xss := h.below ((Below.refl _ _).alloc (Nat.le_refl _) o)
theorem OwnRR.nil (B : Nat) (w : World) : OwnRR B w (.slice none 0 0) [] := ⟨[], World.ownsRow_nil _ _ _ _, rfl, fun k hk => by simp at hk⟩
theorem OwnRR.new_ (w : World) : OwnRR w.heap.size (w.alloc (.cells #[] 22)) (.slice (some ⟨w.heap.size, 0, none⟩) 0 0) [] := by
  have := World.ownsRow_lit (base := w.heap.size) (e := 22) (size := 1) w #[] 0 (Nat.le_refl _) (by decide) (by simp)
  exact ⟨[], by unfold RowR; simpa using this, rfl, fun k hk => by simp at hk⟩
theorem OwnRR.form {B : Nat} {w : World} {v : Value} {xss : List (List Int)} (h : OwnRR B w v xss) : ∃ A c, v = .slice A xss.length c := by
  obtain ⟨vs, hr, hl, _⟩ := h
  rcases hr.2 with ⟨rfl, h0⟩ | ⟨g, cap, cur, rfl, hg, hh, r⟩
  · exact ⟨none, 0, by rw [← hl, h0]⟩
  · exact ⟨_, cap, by rw [hl]⟩
/-- the k-th of the rows -/
theorem OwnRR.at_ {B : Nat} {w : World} {A : Option Addr} {n c : Nat} {xss : List (List Int)} (h : OwnRR B w (.slice A n c) xss) {k : Nat} (hk : k < xss.length) :
    ∃ g D d, A = some ⟨g, 0, none⟩ ∧ B ≤ g ∧ w.cell? ⟨g, k, none⟩ = some (.slice D (gl xss k).length d) ∧ Own B w (.slice D (gl xss k).length d) (gl xss k) := by
  obtain ⟨vs, hr, hl, he⟩ := h
  obtain ⟨D, d, e, ho⟩ := he k hk
  have hv := hr.2
  rcases hv with ⟨e1, h0⟩ | ⟨g, cap, cur, e1, hg, hh, r⟩
  · omega
  · cases e1
    have := World.ownsRow.cells hr (g := g) rfl k _ e
    exact ⟨g, D, d, rfl, hg, by rwa [add_g] at this, ho⟩

theorem info_row : (Try.prog.info? 22).map (fun i => (i.zero, i.size, i.bytes)) = some (some (.slice none 0 0), 1, 24) := by kernel_rfl
theorem info_parts' {t : TypeId} {z : Value} {n b : Nat} (h : (Try.prog.info? t).map (fun i => (i.zero, i.size, i.bytes)) = some (some z, n, b)) : ∃ i, Try.prog.info? t = some i ∧ i.zero = some z ∧ i.size = n ∧ i.bytes = b := by
  cases hi : Try.prog.info? t with
  | none => rw [hi] at h; cases h
  | some i =>
    rw [hi] at h
    simp at h
    exact ⟨i, rfl, h.1, h.2.1, h.2.2⟩

/-- append of one slice -/
theorem wpList_appR {ops : Array Oper} {rest : List Oper} {o : Oper} {a : Act} {Q : Exit → Act → World → Prop} (w : World) (hgd : o.guard = none) (s x : Operand)
    (ho : o.op = .call { callee := .builtin .append, args := #[s, x], argTypes := #[23, 23] })
    (base : Nat) (v : Value) (xss : List (List Int)) (hs : a.eval s = v) (hown : OwnRR base w v xss) (g : Nat) (D : Option Addr) (d : Nat) (zs : List Int) (hz : Own base w (.slice D zs.length d) zs)
    (hx : a.eval x = .slice (some ⟨g, 0, none⟩) 1 1)
    (hc : w.cell? ⟨g, 0, none⟩ = some (.slice D zs.length d)) (hlen : xss.length ≤ 1000000000000) (hbase : base ≤ w.heap.size)
    (hK : ∀ A c w', OwnRR base w' (.slice A (xss.length + 1) c) (xss ++ [zs]) → Below base w w' → wpList Try.prog ops Q rest (a.put o.dst (.slice A (xss.length + 1) c)) w') : wpList Try.prog ops Q (o :: rest) a w := by
  obtain ⟨i0, hi, hz0, hz1, hz2⟩ := info_parts' info_row
  obtain ⟨vs, hr, hl, he⟩ := hown
  refine wpList_append_own w hgd s x 23 ho base 22 i0 (.slice none 0 0) 1 24 Try.underlying23 hi hz0 hz1 hz2 rfl (by decide) v vs.length vs hs hr ⟨g, 0, none⟩ 1 1 [.slice D zs.length d] hx rfl ?_ ?_ ?_ ?_ hbase ?_
  · intro j u hj
    match j, hj with
    | 0, hj => simp at hj; subst hj; simpa [Addr.add] using hc
  · intro u hu; simp at hu; subst hu; rfl
  · unfold maxLen; omega
  · omega
  · intro v' w' hown' hgrow _
    have hel : Els base w' (vs ++ [.slice D zs.length d]) (xss ++ [zs]) := by
      refine ⟨by simp [hl], fun k hk => ?_⟩
      rw [List.length_append] at hk
      by_cases hkl : k < xss.length
      · obtain ⟨A, c, e, ho⟩ := he k hkl
        have e9 : gl (xss ++ [zs]) k = gl xss k := by simp [gl, List.getD, List.getElem?_append_left hkl]
        rw [e9]
        exact ⟨A, c, by rw [List.getElem?_append_left (by omega)]; exact e, ho.kept hgrow (own_apart_row ho hr)⟩
      · obtain rfl : k = xss.length := by simp at hk; omega
        have e9 : gl (xss ++ [zs]) xss.length = zs := by simp [gl, List.getD]
        rw [e9]
        exact ⟨D, d, by rw [← hl]; simp, hz.kept hgrow (own_apart_row hz hr)⟩
    have hrow : RowR base w' v' (vs ++ [.slice D zs.length d]) := by unfold RowR; simpa using hown'
    have hall : OwnRR base w' v' (xss ++ [zs]) := ⟨_, hrow, hel⟩
    obtain ⟨A, c, e⟩ := hall.form
    rw [e] at hall ⊢
    rw [List.length_append] at hall ⊢
    exact hK A c w' hall ((Below.refl base w).grown hgrow hbase (fun k hk => (World.ownsRow.lt hr k hk).1))

end Go.Proofs.Ytkbfcaaihellfaa

/- Rows of rows that are read; the rows that mapsThat hands back; a loop, a goroutine alone. -/
namespace Go.Proofs.Ytkbfcaaihellfaa
open Go.Conc Go.ConcN Go.RowKit
open Go.ConcR (Payload)
set_option linter.unusedVariables false
set_option linter.unusedSectionVars false

/-- the slice value A reads as the rows xss -/
def RdRR (w : World) (A : Option Addr) (xss : List (List Int)) : Prop := ∀ k, k < xss.length → ∃ ad D d, A = some ad ∧ w.cell? (ad.add k) = some (.slice D (gl xss k).length d) ∧ RdA w D (gl xss k)
section
variable {Sb : Nat → Prop} {v v' w : World} {A : Option Addr} {xss : List (List Int)}
theorem OwnRR.rd {B n c : Nat} (h : OwnRR B w (.slice A n c) xss) : RdRR w A xss := fun k hk => by
  obtain ⟨g, D, d, e, _, h1, h2⟩ := h.at_ hk
  refine ⟨_, D, d, e, ?_, h2.rd⟩
  have e2 : (⟨g, 0, none⟩ : Addr).add k = ⟨g, k, none⟩ := by unfold Addr.add; split <;> simp_all
  rw [e2]
  exact h1
theorem RdRR.ltr (hp : PR Sb v w) (h : RdRR v A xss) (l : Ltr Sb v v') : RdRR v' A xss := fun k hk => by
  obtain ⟨ad, D, d, e, h1, h2⟩ := h k hk
  have a1 := (hp.cell_some h1).1
  have a2 := cell_lt h1
  refine ⟨ad, D, d, e, ?_, rdA_ltr hp h2 l⟩
  rw [← h1]
  simp only [World.cell?, l.block _ a2 a1]
theorem own_base {B : Nat} {u : Value} {xs : List Int} (h : Own 0 w u xs) (hb : ∀ N, u.ownBlock = some N → B ≤ N) : Own B w u xs := by
  refine ⟨h.1, ?_⟩
  rcases h.2 with h2 | ⟨g, cap, cur, hv, hg, r⟩
  · exact .inl h2
  · exact .inr ⟨g, cap, cur, hv, hb g (by rw [hv]; rfl), r⟩
/-- what mapsThat hands back is the caller's own -/
theorem allR_own {M : Nat → Prop} {B n cp : Nat} {ad : Option Addr} {R : List (List Int)} (h : AllR M (.slice ad n cp) R w) (hM : ∀ b, M b → B ≤ b) : OwnRR B w (.slice ad n cp) R := by
  obtain ⟨vs, h1, h2, h3⟩ := h
  have hl : vs.length = R.length := h1.1.trans (Nat.mul_one _)
  refine ⟨vs, ?_, hl, fun k hk => ?_⟩
  · unfold RowR
    rw [hl]
    refine ⟨h1.1, ?_⟩
    rcases h1.2 with h4 | ⟨g, cap, cur, hv, hg, r⟩
    · exact .inl h4
    · exact .inr ⟨g, cap, cur, hv, hM g (h2 g (by rw [hv]; rfl)), r⟩
  · obtain ⟨r, o, u, e1, e2, e3, ⟨c, rfl, e4⟩, _⟩ := h3 k (gl R k) (by simp [gl, hk])
    exact ⟨some ⟨r, 0, none⟩, c, e1, own_base (e4 w e3) fun N e => by cases e; exact hM r e2⟩
end

section
variable {P : Program} {main : Bool} {γ : Type} {R : γ → World → World → Prop} {D : γ → World → World → Array Event → γ → Prop} {T : γ → Goroutine → World → Prop} {b : Frame} {k : List Item} {cs : List Frame} {y : γ} {body : Code}
/-- A LOOP, by a measure that each round lowers. -/
theorem loop_ind (hT : Clo P main R D T) (I : Nat → Act → World → Prop) (h : ∀ (m : Nat) (a : Act) (w : World), I m a w → (∀ (m' : Nat) (a' : Act) (w' : World), m' < m → I m' a' w' → T y (G (b.atR a' (.inLoop body :: k)) cs) w') → T y (G (b.atR a (.code body :: .inLoop body :: k)) cs) w) :
    ∀ (m : Nat) (a : Act) (w : World), I m a w → T y (G (b.atR a (.inLoop body :: k)) cs) w := by
  intro m
  induction m using Nat.strongRecOn with
  | ind m ih => exact fun a w hI => t_inLoop hT (h m a w hI fun m' a' w' hm hI' => ih m' hm a' w' hI')
theorem loop_begin (hT : Clo P main R D T) (I : Nat → Act → World → Prop) {m : Nat} {a : Act} {w : World} (hI : I m a w) (h : ∀ (m : Nat) (a : Act) (w : World), I m a w → (∀ (m' : Nat) (a' : Act) (w' : World), m' < m → I m' a' w' → T y (G (b.atR a' (.inLoop body :: k)) cs) w') → T y (G (b.atR a (.code body :: .inLoop body :: k)) cs) w) :
    T y (G (b.atR a (.code (.loop body) :: k)) cs) w :=
  t_loop1 hT (h m a w hI fun m' a' w' _ hI' => loop_ind hT I h m' a' w' hI')
end
end Go.Proofs.Ytkbfcaaihellfaa

/- Contracts of plain functions, a goroutine alone on whatever schedule; the law's return. -/
namespace Go.Proofs.Ytkbfcaaihellfaa
open Go.Conc Go.ConcN Go.ConcN.Gen Go.RowKit Go.Conc.Lib Go.ConcR.Gen
set_option linter.unusedVariables false
set_option linter.unusedSectionVars false

section
variable {Sb : Nat → Prop} {Post : Value → World → Prop} {v w W0 : World} {A : Option Addr} {c : Nat} {xs : List Int}
/-- a contract in LA -/
abbrev CLA (Sb : Nat → Prop) (Post : Value → World → Prop) (f : FuncId) (args : Array Value) (w : World) (Res : Value → World → Prop) : Prop :=
  CallsT Try.prog (LA Try.prog Sb Post) f args () w (fun x _ w' => w'.tape = w.tape ∧ ∃ v', PR Sb v' w' ∧ Res x v')
theorem alive_la (hp : PR Sb v w) : CLA Sb Post 21 #[] w fun x v' => x = .bool true ∧ Ltr Sb v v' :=
  callsLA (by rfl) hp (fun τ => alive_c (v.tp τ 0)) fun τ e v' h => ⟨_, h.1, rfl, ltr_of_below h.2⟩
theorem ret_done {f : FuncId} {fn : Func} {t : Tmp} {a : Act} {k : List Item} {w : World} {v : Value} (hd : a.defers = []) (hf : Try.prog.funcs[f]? = some fn) (hr : fn.results = #[.tmp t]) (hi : Try.prog.inits.idxOf? f = none) (hv : a.tmps.getD t undef = v) :
    stepG Try.prog true (G { (base f).at a k with mode := .returning } []) w = .ended (.done v) w #[] := by
  have hc := resultsC_tmp (P := Try.prog) hr a.tmps w
  rw [hv] at hc
  simp only [Frame.at, base, G]
  unfold stepG
  simp at hi
  simp [unwind, hd, hf, hc.1, hc.2, doReturn, hi, GStep.after, seen]
/-- THE RETURN of the law. -/
theorem la_ret {f : FuncId} {fn : Func} {t : Tmp} {a : Act} {k : List Item} {x : Value} (hd : a.defers = []) (hf : Try.prog.funcs[f]? = some fn) (hr : fn.results = #[.tmp t]) (hi : Try.prog.inits.idxOf? f = none) (hv : a.tmps.getD t undef = x) (hp : ∀ d, Post x (w.at d)) :
    LA Try.prog Sb Post () (G ((base f).atR a (.code .ret :: k)) []) w := by
  have hT := clo_la (P := Try.prog) (Sb := Sb) (Post := Post)
  refine hT.ctl (g' := G { (base f).atR a (.code .ret :: k) with mode := .returning } []) rfl (fun w => by rw [Frame.atR_of_none rfl]; exact stepG_ret') ?_
  refine la_done rfl (fun d => ?_) hp
  rw [Frame.atR_of_none rfl]
  exact ret_done hd hf hr hi hv
end
end Go.Proofs.Ytkbfcaaihellfaa

/- RootsOf and AllWith, a goroutine alone on whatever schedule: what they hand back, and what stands. -/
namespace Go.Proofs.Ytkbfcaaihellfaa
open Go.Conc Go.ConcN Go.RowKit
set_option linter.unusedVariables false
set_option linter.unusedSectionVars false

def rootsV (f : List Int) : List (List Int) := if mapOkB f = true ∧ f.length ≤ 4 then rootsL f else []
def withV (f : List Int) : List (List Int) := if mapOkB f = true ∧ f.length ≤ 4 then withL f else []
/-- what a call of RootsOf or AllWith leaves: the rows L, on blocks M of its own -/
structure Got (v : World) (L : List (List Int)) (Sb' : Nat → Prop) (M : Nat → Prop) (v' : World) (ad : Option Addr) (cp : Nat) : Prop where
  bd : ∀ b, M b → v.heap.size ≤ b ∧ b < v'.heap.size ∧ ¬ Sb' b
  rows : AllR M (.slice ad L.length cp) L v'
section
variable {Sb : Nat → Prop} {Post : Value → World → Prop} {v w W0 : World} {A : Option Addr} {c : Nat} {xs : List Int} {fr : Frame} {cs : List Frame}
theorem Got.none : Got v [] Sb (fun _ => False) v none 0 := ⟨fun b h => h.elim, AllR.nil⟩
theorem rootsOf_i (hi : Inv Sb W0 v w) (hA : RdA v A xs) (hn : xs.length ≤ 1048577)
    (h : ∀ (Sb' M : Nat → Prop) (v' w' : World) (ad : Option Addr) (cp : Nat), (∀ b, b < v.heap.size → Sb' b → Sb b) → Inv Sb' W0 v' w' → Ltr Sb v v' → Got v (rootsV xs) Sb' M v' ad cp → LA Try.prog Sb' Post () (G (fr.finish (.slice ad (rootsV xs).length cp)) cs) w') :
    LA Try.prog Sb Post () (G (Frame.enter Try.prog 11 #[.slice A xs.length c] .normal) (fr :: cs)) w := by
  refine rootsOf_la hi.pr hA hn (fun hno v' w' hp ht l => ?_) (fun hm h4 Wg M v' w' ad cp hW hM hR hp ht l => ?_)
  · have e : rootsV xs = [] := by
      unfold rootsV
      rw [if_neg (by rcases hno with e | e <;> simp [e] <;> omega)]
    have := h Sb (fun _ => False) v' w' none 0 (fun _ _ hs => hs) (hi.ltr l hp ht) l (by rw [e]; exact ⟨fun b h => h.elim, AllR.nil⟩)
    rw [e] at this
    exact this
  · have e : rootsV xs = rootsL xs := by
      unfold rootsV
      rw [if_pos ⟨hm, h4⟩]
    have := h (Sw Sb Wg) M v' w' ad cp (fun b hb hs => hs.elim id fun e => by omega) (hi.ltrW l hW hp ht) l (by
      rw [e]
      exact ⟨fun b hb => ⟨(hM b hb).1, (hM b hb).2.1, fun hs => hs.elim (fun hs => hi.pr.nsize (hM b hb).1 hs) fun e => (hM b hb).2.2 e⟩, hR⟩)
    rw [e] at this
    exact this
theorem allWith_i (hi : Inv Sb W0 v w) (hA : RdA v A xs) (hn : xs.length ≤ 1048577)
    (h : ∀ (Sb' M : Nat → Prop) (v' w' : World) (ad : Option Addr) (cp : Nat), (∀ b, b < v.heap.size → Sb' b → Sb b) → Inv Sb' W0 v' w' → Ltr Sb v v' → Got v (withV xs) Sb' M v' ad cp → LA Try.prog Sb' Post () (G (fr.finish (.slice ad (withV xs).length cp)) cs) w') :
    LA Try.prog Sb Post () (G (Frame.enter Try.prog 18 #[.slice A xs.length c] .normal) (fr :: cs)) w := by
  refine allWith_la hi.pr hA hn (fun hno v' w' hp ht l => ?_) (fun hm h4 Wg M v' w' ad cp hW hM hR hp ht l => ?_)
  · have e : withV xs = [] := by
      unfold withV
      rw [if_neg (by rcases hno with e | e <;> simp [e] <;> omega)]
    have := h Sb (fun _ => False) v' w' none 0 (fun _ _ hs => hs) (hi.ltr l hp ht) l (by rw [e]; exact ⟨fun b h => h.elim, AllR.nil⟩)
    rw [e] at this
    exact this
  · have e : withV xs = withL xs := by
      unfold withV
      rw [if_pos ⟨hm, h4⟩]
    have := h (Sw Sb Wg) M v' w' ad cp (fun b hb hs => hs.elim id fun e => by omega) (hi.ltrW l hW hp ht) l (by
      rw [e]
      exact ⟨fun b hb => ⟨(hM b hb).1, (hM b hb).2.1, fun hs => hs.elim (fun hs => hi.pr.nsize (hM b hb).1 hs) fun e => (hM b hb).2.2 e⟩, hR⟩)
    rw [e] at this
    exact this
theorem Got.own {L : List (List Int)} {Sb' M : Nat → Prop} {v' : World} {ad : Option Addr} {cp : Nat} (h : Got v L Sb' M v' ad cp) : OwnRR v.heap.size v' (.slice ad L.length cp) L := allR_own h.rows fun b hb => (h.bd b hb).1
theorem Got.rd {L : List (List Int)} {Sb' M : Nat → Prop} {v' : World} {ad : Option Addr} {cp : Nat} (h : Got v L Sb' M v' ad cp) : RdRR v' ad L := h.own.rd
end
end Go.Proofs.Ytkbfcaaihellfaa

/- What RootsOf and AllWith hand back: rows of as many numbers; few of them. No program in sight. -/
namespace Go.Proofs.Ytkbfcaaihellfaa
set_option linter.unusedVariables false

theorem thatL_mem {p : List Int → Bool} {n : Nat} {g : List Int} : g ∈ thatL p n ↔ p g = true ∧ ∃ j, j < n ∧ g ∈ rowsOf n j := by
  have key : ∀ k j, g ∈ (rowsFrom p (rowsOf n) j k).flatten ↔ p g = true ∧ ∃ i, j ≤ i ∧ i < j + k ∧ g ∈ rowsOf n i := by
    intro k
    induction k with
    | zero =>
      intro j
      simp only [rowsFrom, List.flatten_nil, List.not_mem_nil, false_iff]
      rintro ⟨_, i, h1, h2, _⟩
      omega
    | succ k ih =>
      intro j
      rw [rowsFrom, List.flatten_cons, List.mem_append, ih, List.mem_filter]
      constructor
      · rintro (⟨h1, h2⟩ | ⟨h1, i, h2, h3, h4⟩)
        · exact ⟨h2, j, Nat.le_refl _, by omega, h1⟩
        · exact ⟨h1, i, by omega, by omega, h4⟩
      · rintro ⟨h1, i, h2, h3, h4⟩
        rcases Nat.eq_or_lt_of_le h2 with rfl | h5
        · exact .inl ⟨h4, h1⟩
        · exact .inr ⟨h1, i, h5, by omega, h4⟩
  unfold thatL
  rw [key]
  constructor
  · rintro ⟨h1, i, h2, h3, h4⟩; exact ⟨h1, i, by omega, h4⟩
  · rintro ⟨h1, i, h2, h4⟩; exact ⟨h1, i, by omega, by omega, h4⟩
theorem rowsOf_good : ∀ n, n < 5 → ∀ j, j < n → (rowsOf n j).all (fun g => decide (g.length = n) && mapOkB g) = true := by decide +kernel
theorem thatL_row {p : List Int → Bool} {n : Nat} (hn : n ≤ 4) {g : List Int} (h : g ∈ thatL p n) : g.length = n ∧ mapOkB g = true ∧ p g = true := by
  obtain ⟨h1, j, h2, h3⟩ := thatL_mem.1 h
  have := List.all_eq_true.1 (rowsOf_good n (by omega) j h2) g h3
  simp only [Bool.and_eq_true, decide_eq_true_eq] at this
  exact ⟨this.1, this.2, h1⟩
theorem withV_row {f g : List Int} (h : g ∈ withV f) : mapOkB f = true ∧ f.length ≤ 4 ∧ g.length = f.length ∧ mapOkB g = true ∧ behindL f g ≠ [] ∧ behindL f g = behindL g f := by
  unfold withV at h
  split at h
  · rename_i hc
    obtain ⟨h1, h2, h3⟩ := thatL_row hc.2 h
    have := of_decide_eq_true h3
    exact ⟨hc.1, hc.2, h1, h2, this.1, this.2⟩
  · cases h
theorem rootsV_row {f g : List Int} (h : g ∈ rootsV f) : mapOkB f = true ∧ f.length ≤ 4 ∧ g.length = f.length ∧ mapOkB g = true ∧ behindL g g = f := by
  unfold rootsV at h
  split at h
  · rename_i hc
    obtain ⟨h1, h2, h3⟩ := thatL_row hc.2 h
    exact ⟨hc.1, hc.2, h1, h2, of_decide_eq_true h3⟩
  · cases h
theorem withV_len (f : List Int) : (withV f).length ≤ 1000 := by
  unfold withV
  split
  · rename_i hc; exact thatL_len hc.2
  · simp
theorem rootsV_len (f : List Int) : (rootsV f).length ≤ 1000 := by
  unfold rootsV
  split
  · rename_i hc; exact thatL_len hc.2
  · simp
theorem glmem {L : List (List Int)} {i : Nat} (h : i < L.length) : gl L i ∈ L := by
  rw [gl, List.getD_eq_getElem?_getD, List.getElem?_eq_getElem h]; exact List.getElem_mem h
theorem takeS {L : List (List Int)} {i : Nat} (h : i < L.length) : L.take (i + 1) = L.take i ++ [gl L i] := by
  rw [List.take_succ_eq_append_getElem h, gl, List.getD_eq_getElem?_getD, List.getElem?_eq_getElem h]; rfl
end Go.Proofs.Ytkbfcaaihellfaa
