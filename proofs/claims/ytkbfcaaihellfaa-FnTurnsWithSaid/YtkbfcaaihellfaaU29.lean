/- Steps on the way to the law; each part says what it proves. -/
import Derived.Test.YtkbfcaaihellfaaU28
import Derived.Test.YtkbfcaaihellfaaU25
import Derived.Test.YtkbfcaaihellfaaU26
import Derived.Test.YtkbfcaaihellfaaU24
import Derived.Test.YtkbfcaaihellfaaU23

set_option linter.unusedSimpArgs false

/- RootsOf and AllWith, a goroutine alone on whatever schedule: through their workers to their return. -/
namespace Go.Proofs.Ytkbfcaaihellfaa
open Go.Conc Go.ConcN Go.ConcN.Gen Go.RowKit Go.Conc.Lib Go.ConcR.Gen
open Go.ConcR (KK wgBlock WgAt stA smA rd wr mk Payload Aside2 DC0)
set_option linter.unusedVariables false
set_option linter.unusedSectionVars false

theorem evA_cell {Sb : Nat → Prop} {n : Nat} {a : Addr} {x s : Bool} (h : a.block < n) (hs : ¬ Sb a.block) : EvP n ⟨.cell a, x, s⟩ ∧ Shy Sb ⟨.cell a, x, s⟩ := ⟨evP_cell a x s h, shy_cell hs⟩
theorem row_live {Wg : Nat} {w : World} (h : WgLive wgL.tWg Wg w) : IsRow w Wg := by
  obtain ⟨st, sm, h⟩ := h
  exact ⟨_, _, _, h⟩
theorem at_size (w : World) (d : Nat) : (w.at d).heap.size = w.heap.size := rfl
theorem t_enter {P : Program} {main : Bool} {γ : Type} {R : γ → World → World → Prop} {D : γ → World → World → Array Event → γ → Prop} {T : γ → Goroutine → World → Prop} {b : Frame} {a : Act} {k : List Item} {cs : List Frame} {y : γ} {w : World} {ops : Array Oper}
    (hT : Clo P main R D T) {i : Nat} {rest : List Nat} {o : Oper} {f : FuncId} {fn : Func} {code : Code} {args : Array Operand} {ats : Array TypeId} (ho : ops[i]? = some o) (hw : Region.wanted o (yielded ops a.tmps) = true) (hk : b.kind ≠ .early) (hs : o.semAt b.roundOf a.eval = execOp a.eval o)
    (hop : o.op = .call { callee := .value (.func f), args, argTypes := ats }) (hf : P.funcs[f]? = some fn) (hname : (fn.name == "runtime.NumGoroutine") = false) (hb : fn.body = some code)
    (h : T y (G (Frame.enter P f (args.map a.eval) .normal) (b.atR a (.inRegion ops (i :: rest) :: k) :: cs)) w) : T y (G (b.atR a (.inRegion ops (i :: rest) :: k)) cs) w := by
  have hb' : fn.body.isNone = false := by rw [hb]; rfl
  refine hT.ctl (g' := G (Frame.enter P f (args.map a.eval) .normal) (b.atR a (.inRegion ops (i :: rest) :: k) :: cs)) rfl (fun w => ?_) h
  rw [sG_enter ho hw hk hs (run_call_body hop hf hname hb')]
  have : listed P b.fn a o w = #[] := by unfold listed; rw [events_call_body hop hf hname hb']; exact seen_none P _
  rw [this]

section
variable {Sb : Nat → Prop} {Post : Value → World → Prop} {A : Option Addr} {c : Nat} {xs : List Int} {v w : World} {fr : Frame} {cs : List Frame}
set_option maxHeartbeats 4000000 in
theorem rootsOf_la (hp : PR Sb v w) (hA : RdA v A xs) (hn : xs.length ≤ 1048577) (hno : mapOkB xs = false ∨ 4 < xs.length → ∀ v' w', PR Sb v' w' → w'.tape = w.tape → Ltr Sb v v' → LA Try.prog Sb Post () (G (fr.finish (.slice none 0 0)) cs) w')
    (hyes : mapOkB xs = true → xs.length ≤ 4 → ∀ (Wg : Nat) (M : Nat → Prop) (v' w' : World) (ad : Option Addr) (cp : Nat), v.heap.size ≤ Wg → (∀ b, M b → v.heap.size ≤ b ∧ b < v'.heap.size ∧ b ≠ Wg) → AllR M (.slice ad (rootsL xs).length cp) (rootsL xs) v' → PR (Sw Sb Wg) v' w' → w'.tape = w.tape → Ltr Sb v v' →
      LA Try.prog (Sw Sb Wg) Post () (G (fr.finish (.slice ad (rootsL xs).length cp)) cs) w') :
    LA Try.prog Sb Post () (G (Frame.enter Try.prog 11 #[.slice A xs.length c] .normal) (fr :: cs)) w := by
  rw [enter_atR _ Try.func11 rfl]
  have hT := clo_la (P := Try.prog) (Sb := Sb) (Post := Post)
  have hk : (base 11).kind ≠ .early := base_kind _
  have hro : (base 11).roundOf = none := rfl
  have hM := fun (v1 w1 : World) (h1 : PR Sb v1 w1) (h : RdA v1 A xs) => callsLA (Post := Post) (f := 40) (by rfl) h1 (fun τ => iMapOk_c A c xs (v1.tp τ 0) h hn) (Res := fun x v' => x = .bool (mapOkB xs) ∧ ∃ τ, v' = v1.tp τ 0) (fun τ e v' h => ⟨_, h.1, rfl, τ, h.2.symm⟩)
  have hB := fun (W : World) (cap : Array Value) (c0 : Frame) (cs : List Frame) => head41_la (Sb := Sb) (Post := Post) (fF := 42) (nn := xs.length) (cap := cap) (w := W) (c0 := c0) (cs := cs)
  have hML := @mapsThat_la
  generalize hT' : LA Try.prog Sb Post = T at hT hM hB hno ⊢
  simp only [Try.ntmps11, List.size_toArray, List.length_cons, List.length_nil, Nat.reduceAdd, Nat.reduceSub, Array.replicate_succ, Array.replicate_zero, List.push_toArray, List.append_toArray, List.nil_append, List.cons_append]
  repeat (first | refine t_seq hT ?_ | refine t_block hT ?_ | refine t_skip hT ?_ | refine t_inBlock hT ?_ | refine t_rend hT ?_ | refine t_exit hT rfl ?_)
  refine t_region hT [0, 1] rfl ?_
  refine t_op hT rfl (by rfl) (by first | decide | assumption) (by first | rfl | (rw [hro]; rfl)) (fun w₁ hR K hK => ?_)
  obtain ⟨d, rfl⟩ := hR
  go_simp
  try (unfold stored; go_simp)
  try go_ints
  refine hK _ _ () (da_nil (listed_nil (by simp [go_sem, *])) (by simp only [alloc_size]; omega)) ?_
  clear hK K
  try simp only [at_alloc, at_set, at_heap]
  refine la_strip hT ?_
  try walk_nrm
  have hp1 := hp.alloc (.cells #[.slice A xs.length c] 22)
  have l1 : Ltr Sb v (v.alloc (.cells #[.slice A xs.length c] 22)) := ltr_alloc v _
  have e1 : (w.alloc (.cells #[.slice A xs.length c] 22)).heap.size = w.heap.size + 1 := alloc_size
  have x1 : (w.alloc (.cells #[.slice A xs.length c] 22)).heap[w.heap.size]? = some (.cells #[.slice A xs.length c] 22) := Array.getElem?_push_size
  have t1 : (w.alloc (.cells #[.slice A xs.length c] 22)).tape = w.tape := rfl
  have hA1 := rdA_ltr hp hA l1
  have hvs := hp.size
  have hNS : ¬ Sb w.heap.size := hp.nsize (by rw [hvs]; exact Nat.le_refl _)
  generalize w.alloc (.cells #[.slice A xs.length c] 22) = W1 at *
  generalize v.alloc (.cells #[.slice A xs.length c] 22) = V1 at *
  have hcl := cell_of_heap (k := 0) (v := .slice A xs.length c) x1 rfl
  refine t_op hT rfl (by rfl) (by first | decide | assumption) (by first | rfl | (rw [hro]; rfl)) (fun w₁ hR K hK => ?_)
  obtain ⟨d, rfl⟩ := hR
  go_simp
  try (unfold stored; go_simp)
  try go_ints
  refine hK _ _ () (da_nil (listed_nil (by simp [go_sem, *])) (Nat.le_refl _)) ?_
  clear hK K
  try simp only [at_alloc, at_set, at_heap]
  refine la_strip hT ?_
  try walk_nrm
  repeat (first | refine t_seq hT ?_ | refine t_block hT ?_ | refine t_skip hT ?_ | refine t_inBlock hT ?_ | refine t_rend hT ?_ | refine t_exit hT rfl ?_)
  refine t_region hT [0, 1, 2, 3, 4, 5, 6, 7] rfl ?_
  refine t_op hT rfl (by rfl) (by first | decide | assumption) (by first | rfl | (rw [hro]; rfl)) (fun w₁ hR K hK => ?_)
  obtain ⟨d, rfl⟩ := hR
  have hcd : (W1.at d).cell? ⟨w.heap.size, 0, none⟩ = _ := hcl
  go_simp
  try (unfold stored; go_simp)
  try go_ints
  refine hK _ _ () (⟨Nat.le_refl _, by co_evs (exact evA_cell (by show w.heap.size < W1.heap.size; omega) hNS)⟩) ?_
  clear hK K
  try simp only [at_alloc, at_set, at_heap]
  refine la_strip hT ?_
  try walk_nrm
  clear hcl
  refine t_call hT rfl (by rfl) (by first | decide | assumption) (by first | rfl | (rw [hro]; rfl)) rfl Try.func40 (by rfl) rfl (by walk_nrm; exact hM V1 W1 hp1 hA1) ?_
  rintro _ ⟨⟩ W2 ⟨ht2, V2, hp2, rfl, τ, rfl⟩
  try walk_nrm
  have x2 : W2.heap[w.heap.size]? = some (.cells #[.slice A xs.length c] 22) := (hp2.same _ hNS).symm.trans ((hp1.same _ hNS).trans x1)
  have e2 : W2.heap.size = w.heap.size + 1 := hp2.size.symm.trans (hp1.size.trans e1)
  have hA2 : RdA (V1.tp τ 0) A xs := hA1
  have l2 : Ltr Sb v (V1.tp τ 0) := ⟨l1.os, l1.output, l1.size, l1.block⟩
  generalize V1.tp τ 0 = V2 at *
  clear hA1 x1 hM hp1 l1
  have hcl := cell_of_heap (k := 0) (v := .slice A xs.length c) x2 rfl
  cases hm : mapOkB xs with
  | false =>
    refine t_op hT rfl (by rfl) (by first | decide | assumption) (by first | rfl | (rw [hro]; rfl)) (fun w₁ hR K hK => ?_)
    obtain ⟨d, rfl⟩ := hR
    go_simp
    try (unfold stored; go_simp)
    try go_ints
    refine hK _ _ () (da_nil (listed_nil (by simp [go_sem, *])) (Nat.le_refl _)) ?_
    clear hK K
    try simp only [at_alloc, at_set, at_heap]
    refine la_strip hT ?_
    try walk_nrm
    refine t_op hT rfl (by rfl) (by first | decide | assumption) (by first | rfl | (rw [hro]; rfl)) (fun w₁ hR K hK => ?_)
    obtain ⟨d, rfl⟩ := hR
    go_simp
    try (unfold stored; go_simp)
    try go_ints
    refine hK _ _ () (da_nil (listed_nil (by simp [go_sem, *])) (Nat.le_refl _)) ?_
    clear hK K
    try simp only [at_alloc, at_set, at_heap]
    refine la_strip hT ?_
    try walk_nrm
    refine t_un hT rfl (by rfl) ?_
    try walk_nrm
    refine t_un hT rfl (by rfl) ?_
    try walk_nrm
    refine t_un hT rfl (by rfl) ?_
    try walk_nrm
    refine t_op hT rfl (by rfl) (by first | decide | assumption) (by first | rfl | (rw [hro]; rfl)) (fun w₁ hR K hK => ?_)
    obtain ⟨d, rfl⟩ := hR
    go_simp
    try (unfold stored; go_simp)
    try go_ints
    refine hK _ _ () (da_nil (listed_nil (by simp [go_sem, *])) (Nat.le_refl _)) ?_
    clear hK K
    try simp only [at_alloc, at_set, at_heap]
    refine la_strip hT ?_
    try walk_nrm
    repeat (first | refine t_seq hT ?_ | refine t_block hT ?_ | refine t_skip hT ?_ | refine t_inBlock hT ?_ | refine t_rend hT ?_ | refine t_exit hT rfl ?_)
    refine t_cond hT (t := _) rfl ?_
    simp only [if_true, if_false, reduceIte, Bool.false_eq_true, *]
    repeat (first | refine t_seq hT ?_ | refine t_block hT ?_ | refine t_skip hT ?_ | refine t_inBlock hT ?_ | refine t_rend hT ?_ | refine t_exit hT rfl ?_)
    refine t_region hT [0] rfl ?_
    refine t_op hT rfl (by rfl) (by first | decide | assumption) (by first | rfl | (rw [hro]; rfl)) (fun w₁ hR K hK => ?_)
    obtain ⟨d, rfl⟩ := hR
    go_simp
    try (unfold stored; go_simp)
    try go_ints
    refine hK _ _ () (da_nil (listed_nil (by simp [go_sem, *])) (Nat.le_refl _)) ?_
    clear hK K
    try simp only [at_alloc, at_set, at_heap]
    refine la_strip hT ?_
    try walk_nrm
    repeat (first | refine t_seq hT ?_ | refine t_block hT ?_ | refine t_skip hT ?_ | refine t_inBlock hT ?_ | refine t_rend hT ?_ | refine t_exit hT rfl ?_)
    subst hT'
    refine t_ret hT rfl rfl rfl Try.func11 (resultsC_tmp (by rfl) _) ?_
    exact hno (.inl hm) _ _ hp2 (ht2.trans t1) l2
  | true =>
    refine t_op hT rfl (by rfl) (by first | decide | assumption) (by first | rfl | (rw [hro]; rfl)) (fun w₁ hR K hK => ?_)
    obtain ⟨d, rfl⟩ := hR
    go_simp
    try (unfold stored; go_simp)
    try go_ints
    refine hK _ _ () (da_nil (listed_nil (by simp [go_sem, *])) (Nat.le_refl _)) ?_
    clear hK K
    try simp only [at_alloc, at_set, at_heap]
    refine la_strip hT ?_
    try walk_nrm
    refine t_op hT rfl (by rfl) (by first | decide | assumption) (by first | rfl | (rw [hro]; rfl)) (fun w₁ hR K hK => ?_)
    obtain ⟨d, rfl⟩ := hR
    go_simp
    try (unfold stored; go_simp)
    try go_ints
    refine hK _ _ () (da_nil (listed_nil (by simp [go_sem, *])) (Nat.le_refl _)) ?_
    clear hK K
    try simp only [at_alloc, at_set, at_heap]
    refine la_strip hT ?_
    try walk_nrm
    refine t_op hT rfl (by rfl) (by first | decide | assumption) (by first | rfl | (rw [hro]; rfl)) (fun w₁ hR K hK => ?_)
    obtain ⟨d, rfl⟩ := hR
    have hcd : (W2.at d).cell? ⟨w.heap.size, 0, none⟩ = _ := hcl
    go_simp
    try (unfold stored; go_simp)
    try go_ints
    refine hK _ _ () (⟨Nat.le_refl _, by co_evs (exact evA_cell (by show w.heap.size < W2.heap.size; omega) hNS)⟩) ?_
    clear hK K
    try simp only [at_alloc, at_set, at_heap]
    refine la_strip hT ?_
    try walk_nrm
    refine t_op hT rfl (by rfl) (by first | decide | assumption) (by first | rfl | (rw [hro]; rfl)) (fun w₁ hR K hK => ?_)
    obtain ⟨d, rfl⟩ := hR
    go_simp
    try (unfold stored; go_simp)
    try go_ints
    refine hK _ _ () (da_nil (listed_nil (by simp [go_sem, *])) (Nat.le_refl _)) ?_
    clear hK K
    try simp only [at_alloc, at_set, at_heap]
    refine la_strip hT ?_
    try walk_nrm
    by_cases h4 : xs.length ≤ 4
    · have hd : decide (4 < (xs.length : Int)) = false := by simp; omega
      refine t_op hT rfl (by rfl) (by first | decide | assumption) (by first | rfl | (rw [hro]; rfl)) (fun w₁ hR K hK => ?_)
      obtain ⟨d, rfl⟩ := hR
      go_simp
      try (unfold stored; go_simp)
      try go_ints
      refine hK _ _ () (da_nil (listed_nil (by simp [go_sem, *])) (Nat.le_refl _)) ?_
      clear hK K
      try simp only [at_alloc, at_set, at_heap]
      refine la_strip hT ?_
      try walk_nrm
      refine t_op hT rfl (by rfl) (by first | decide | assumption) (by first | rfl | (rw [hro]; rfl)) (fun w₁ hR K hK => ?_)
      obtain ⟨d, rfl⟩ := hR
      go_simp
      try (unfold stored; go_simp)
      try go_ints
      refine hK _ _ () (da_nil (listed_nil (by simp [go_sem, *])) (Nat.le_refl _)) ?_
      clear hK K
      try simp only [at_alloc, at_set, at_heap]
      refine la_strip hT ?_
      try walk_nrm
      repeat (first | refine t_seq hT ?_ | refine t_block hT ?_ | refine t_skip hT ?_ | refine t_inBlock hT ?_ | refine t_rend hT ?_ | refine t_exit hT rfl ?_)
      refine t_cond hT (t := _) rfl ?_
      simp only [if_true, if_false, reduceIte, Bool.false_eq_true, *]
      repeat (first | refine t_seq hT ?_ | refine t_block hT ?_ | refine t_skip hT ?_ | refine t_inBlock hT ?_ | refine t_rend hT ?_ | refine t_exit hT rfl ?_)
      refine t_region hT [0, 1, 2, 3, 4] rfl ?_
      refine t_op hT rfl (by rfl) (by first | decide | assumption) (by first | rfl | (rw [hro]; rfl)) (fun w₁ hR K hK => ?_)
      obtain ⟨d, rfl⟩ := hR
      have hcd : (W2.at d).cell? ⟨w.heap.size, 0, none⟩ = _ := hcl
      go_simp
      try (unfold stored; go_simp)
      try go_ints
      refine hK _ _ () (⟨Nat.le_refl _, by co_evs (exact evA_cell (by show w.heap.size < W2.heap.size; omega) hNS)⟩) ?_
      clear hK K
      try simp only [at_alloc, at_set, at_heap]
      refine la_strip hT ?_
      try walk_nrm
      refine t_op hT rfl (by rfl) (by first | decide | assumption) (by first | rfl | (rw [hro]; rfl)) (fun w₁ hR K hK => ?_)
      obtain ⟨d, rfl⟩ := hR
      go_simp
      try (unfold stored; go_simp)
      try go_ints
      refine hK _ _ () (da_nil (listed_nil (by simp [go_sem, *])) (Nat.le_refl _)) ?_
      clear hK K
      try simp only [at_alloc, at_set, at_heap]
      refine la_strip hT ?_
      try walk_nrm
      refine t_op hT rfl (by rfl) (by first | decide | assumption) (by first | rfl | (rw [hro]; rfl)) (fun w₁ hR K hK => ?_)
      obtain ⟨d, rfl⟩ := hR
      go_simp
      try (unfold stored; go_simp)
      try go_ints
      refine hK _ _ () (da_nil (listed_nil (by simp [go_sem, *])) (Nat.le_refl _)) ?_
      clear hK K
      try simp only [at_alloc, at_set, at_heap]
      refine la_strip hT ?_
      try walk_nrm
      have h1 : 1 ≤ xs.length := (mapOkB_elim hm).1.1
      have hnS : ∀ b, W2.heap.size ≤ b → ¬ Sb b := fun b hb => hp2.nsize (by rw [hp2.size]; exact hb)
      have hAS : ∀ ad, A = some ad → ¬ Sb ad.block := fun ad e => by
        obtain ⟨ad2, e3, h3⟩ := hA2 0 (by omega)
        rw [e] at e3
        cases e3
        have := (hp2.cell_some h3).1
        rwa [block_of_add] at this
      refine t_enter hT rfl (by rfl) (by first | decide | assumption) (by first | rfl | (rw [hro]; rfl)) rfl Try.func41 (by rfl) rfl ?_
      walk_nrm
      refine hB W2 _ _ _ (by omega) (fun r hr => by have := hp2.lt r hr; rw [hp2.size] at this; exact this) (fun a w' hLv hk' hsz hq ht hx hg hr => ?_)
      refine hML (Sb := Sb) (Wg := W2.heap.size + 2) (C := W2.heap.size + 3) (bT := W2.heap.size) (bX := W2.heap.size + 1) (SF := fun b => b < W2.heap.size ∧ ¬ Sb b) (Fq := fun W => ∀ b, b < W2.heap.size → ¬ Sb b → W.heap[b]? = W2.heap[b]?) (p := fun g => decide (behindL g g = xs)) (Rj := rowsOf xs.length)
        (tst_rootsS h1 h4 rfl (by omega) hNS x2 (rdA_true hp2 hA2) hAS) (Nat.le_trans (thatL_len h4) (by omega)) hLv ?_ (fun b hb => ?_) (fun b hb => (hp2.row b hb).of (hk' b ?_)) hg (Nat.le_refl _) (fun M wd ad cp hMl hAll hF hKp hsz2 hlive hrow => ?_)
      · refine ⟨fun b hb => hb.elim False.elim (·.1), ⟨by omega, by omega, hnS _ (by omega)⟩, id, id, fun h => h.2.1 rfl, ⟨0, 0, hg⟩, ⟨_, hr, madeCells_size _ _⟩, fun i c ls hi => by simp at hi, ⟨.inr ⟨by omega, by omega, hnS _ (by omega)⟩, by omega⟩, ht, ⟨.inr ⟨by omega, by omega, hnS _ (by omega)⟩, by omega⟩, cell_of_heap (k := 0) hx rfl, fun b hb => ⟨⟨by have := hb.1; omega, by have := hb.1; omega, hb.2⟩, by have := hb.1; omega⟩, fun b hb _ => hk' b hb, fun b hb => hb.elim⟩
      · have := Nat.lt_of_not_le fun h => hnS b h hb
        exact ⟨by omega, by omega, by omega⟩
      · exact Nat.lt_of_not_le fun h => hnS b h hb
      · clear hT hB hML hno
        have hT := clo_la (P := Try.prog) (Sb := Sw Sb (W2.heap.size + 2)) (Post := Post)
        obtain ⟨V3, hp3⟩ := pr_exists (Sb := Sw Sb (W2.heap.size + 2)) (w := wd) (fun r hr => hr.elim (hrow r) fun e => by rw [e]; exact row_live hlive)
        have hy := hyes hm h4 (W2.heap.size + 2) M V3 wd ad cp (by omega) (fun b hb => ?_) (hAll.heap (fun b hb => hp3.same b fun hs => ?_) fun _ h => h) hp3 (hKp.1.trans (hq.1.trans (ht2.trans t1))) ⟨?_, ?_, ?_, fun b hb hs => ?_⟩
        · change LA Try.prog (Sw Sb (W2.heap.size + 2)) Post () (G (fr.finish (.slice ad ((rowsFrom (fun g => decide (behindL g g = xs)) (rowsOf xs.length) 0 xs.length).flatten).length cp)) cs) wd at hy
          generalize ((rowsFrom (fun g => decide (behindL g g = xs)) (rowsOf xs.length) 0 xs.length).flatten).length = m at *
          generalize LA Try.prog (Sw Sb (W2.heap.size + 2)) Post = T2 at hT hy ⊢
          rw [Frame.finish_atR]
          try walk_nrm
          refine t_op hT rfl (by rfl) (by first | decide | assumption) (by first | rfl | (rw [hro]; rfl)) (fun w₁ hR K hK => ?_)
          obtain ⟨d, rfl⟩ := hR
          go_simp
          try (unfold stored; go_simp)
          try go_ints
          refine hK _ _ () (da_nil (listed_nil (by simp [go_sem, *])) (Nat.le_refl _)) ?_
          clear hK K
          try simp only [at_alloc, at_set, at_heap]
          refine la_strip hT ?_
          try walk_nrm
          repeat (first | refine t_seq hT ?_ | refine t_block hT ?_ | refine t_skip hT ?_ | refine t_inBlock hT ?_ | refine t_rend hT ?_ | refine t_exit hT rfl ?_)
          refine t_ret hT rfl rfl rfl Try.func11 (resultsC_tmp (by rfl) _) ?_
          exact hy
        · have := hMl b hb
          rw [hp3.size]
          exact ⟨by omega, by omega, by omega⟩
        · have := hMl b hb
          rcases hs with hs | hs
          · exact hnS b (by omega) hs
          · omega
        · exact hp3.os.trans (hKp.2.1.trans (hq.2.1.trans (hp2.os.symm.trans l2.os)))
        · exact hp3.output.trans (hKp.2.2.trans (hq.2.2.trans (hp2.output.symm.trans l2.output)))
        · rw [hp3.size]; omega
        · have hb2 : b < W2.heap.size := by omega
          exact (hp3.same b fun h => h.elim hs fun h => by omega).trans ((hF b hb2 hs).trans ((hp2.same b hs).symm.trans (l2.block b hb hs)))
    · have hd : decide (4 < (xs.length : Int)) = true := by simp; omega
      refine t_op hT rfl (by rfl) (by first | decide | assumption) (by first | rfl | (rw [hro]; rfl)) (fun w₁ hR K hK => ?_)
      obtain ⟨d, rfl⟩ := hR
      go_simp
      try (unfold stored; go_simp)
      try go_ints
      refine hK _ _ () (da_nil (listed_nil (by simp [go_sem, *])) (Nat.le_refl _)) ?_
      clear hK K
      try simp only [at_alloc, at_set, at_heap]
      refine la_strip hT ?_
      try walk_nrm
      refine t_op hT rfl (by rfl) (by first | decide | assumption) (by first | rfl | (rw [hro]; rfl)) (fun w₁ hR K hK => ?_)
      obtain ⟨d, rfl⟩ := hR
      go_simp
      try (unfold stored; go_simp)
      try go_ints
      refine hK _ _ () (da_nil (listed_nil (by simp [go_sem, *])) (Nat.le_refl _)) ?_
      clear hK K
      try simp only [at_alloc, at_set, at_heap]
      refine la_strip hT ?_
      try walk_nrm
      repeat (first | refine t_seq hT ?_ | refine t_block hT ?_ | refine t_skip hT ?_ | refine t_inBlock hT ?_ | refine t_rend hT ?_ | refine t_exit hT rfl ?_)
      refine t_cond hT (t := _) rfl ?_
      simp only [if_true, if_false, reduceIte, Bool.false_eq_true, *]
      repeat (first | refine t_seq hT ?_ | refine t_block hT ?_ | refine t_skip hT ?_ | refine t_inBlock hT ?_ | refine t_rend hT ?_ | refine t_exit hT rfl ?_)
      refine t_region hT [0] rfl ?_
      refine t_op hT rfl (by rfl) (by first | decide | assumption) (by first | rfl | (rw [hro]; rfl)) (fun w₁ hR K hK => ?_)
      obtain ⟨d, rfl⟩ := hR
      go_simp
      try (unfold stored; go_simp)
      try go_ints
      refine hK _ _ () (da_nil (listed_nil (by simp [go_sem, *])) (Nat.le_refl _)) ?_
      clear hK K
      try simp only [at_alloc, at_set, at_heap]
      refine la_strip hT ?_
      try walk_nrm
      repeat (first | refine t_seq hT ?_ | refine t_block hT ?_ | refine t_skip hT ?_ | refine t_inBlock hT ?_ | refine t_rend hT ?_ | refine t_exit hT rfl ?_)
      subst hT'
      refine t_ret hT rfl rfl rfl Try.func11 (resultsC_tmp (by rfl) _) ?_
      exact hno (.inr (by omega)) _ _ hp2 (ht2.trans t1) l2
end

section
variable {Sb : Nat → Prop} {Post : Value → World → Prop} {A : Option Addr} {c : Nat} {xs : List Int} {v w : World} {fr : Frame} {cs : List Frame}
set_option maxHeartbeats 4000000 in
theorem allWith_la (hp : PR Sb v w) (hA : RdA v A xs) (hn : xs.length ≤ 1048577) (hno : mapOkB xs = false ∨ 4 < xs.length → ∀ v' w', PR Sb v' w' → w'.tape = w.tape → Ltr Sb v v' → LA Try.prog Sb Post () (G (fr.finish (.slice none 0 0)) cs) w')
    (hyes : mapOkB xs = true → xs.length ≤ 4 → ∀ (Wg : Nat) (M : Nat → Prop) (v' w' : World) (ad : Option Addr) (cp : Nat), v.heap.size ≤ Wg → (∀ b, M b → v.heap.size ≤ b ∧ b < v'.heap.size ∧ b ≠ Wg) → AllR M (.slice ad (withL xs).length cp) (withL xs) v' → PR (Sw Sb Wg) v' w' → w'.tape = w.tape → Ltr Sb v v' →
      LA Try.prog (Sw Sb Wg) Post () (G (fr.finish (.slice ad (withL xs).length cp)) cs) w') :
    LA Try.prog Sb Post () (G (Frame.enter Try.prog 18 #[.slice A xs.length c] .normal) (fr :: cs)) w := by
  rw [enter_atR _ Try.func18 rfl]
  have hT := clo_la (P := Try.prog) (Sb := Sb) (Post := Post)
  have hk : (base 18).kind ≠ .early := base_kind _
  have hro : (base 18).roundOf = none := rfl
  have hM := fun (v1 w1 : World) (h1 : PR Sb v1 w1) (h : RdA v1 A xs) => callsLA (Post := Post) (f := 40) (by rfl) h1 (fun τ => iMapOk_c A c xs (v1.tp τ 0) h hn) (Res := fun x v' => x = .bool (mapOkB xs) ∧ ∃ τ, v' = v1.tp τ 0) (fun τ e v' h => ⟨_, h.1, rfl, τ, h.2.symm⟩)
  have hB := fun (W : World) (cap : Array Value) (c0 : Frame) (cs : List Frame) => head41_la (Sb := Sb) (Post := Post) (fF := 46) (nn := xs.length) (cap := cap) (w := W) (c0 := c0) (cs := cs)
  have hML := @mapsThat_la
  generalize hT' : LA Try.prog Sb Post = T at hT hM hB hno ⊢
  simp only [Try.ntmps18, List.size_toArray, List.length_cons, List.length_nil, Nat.reduceAdd, Nat.reduceSub, Array.replicate_succ, Array.replicate_zero, List.push_toArray, List.append_toArray, List.nil_append, List.cons_append]
  repeat (first | refine t_seq hT ?_ | refine t_block hT ?_ | refine t_skip hT ?_ | refine t_inBlock hT ?_ | refine t_rend hT ?_ | refine t_exit hT rfl ?_)
  refine t_region hT [0, 1] rfl ?_
  refine t_op hT rfl (by rfl) (by first | decide | assumption) (by first | rfl | (rw [hro]; rfl)) (fun w₁ hR K hK => ?_)
  obtain ⟨d, rfl⟩ := hR
  go_simp
  try (unfold stored; go_simp)
  try go_ints
  refine hK _ _ () (da_nil (listed_nil (by simp [go_sem, *])) (by simp only [alloc_size]; omega)) ?_
  clear hK K
  try simp only [at_alloc, at_set, at_heap]
  refine la_strip hT ?_
  try walk_nrm
  have hp1 := hp.alloc (.cells #[.slice A xs.length c] 22)
  have l1 : Ltr Sb v (v.alloc (.cells #[.slice A xs.length c] 22)) := ltr_alloc v _
  have e1 : (w.alloc (.cells #[.slice A xs.length c] 22)).heap.size = w.heap.size + 1 := alloc_size
  have x1 : (w.alloc (.cells #[.slice A xs.length c] 22)).heap[w.heap.size]? = some (.cells #[.slice A xs.length c] 22) := Array.getElem?_push_size
  have t1 : (w.alloc (.cells #[.slice A xs.length c] 22)).tape = w.tape := rfl
  have hA1 := rdA_ltr hp hA l1
  have hvs := hp.size
  have hNS : ¬ Sb w.heap.size := hp.nsize (by rw [hvs]; exact Nat.le_refl _)
  generalize w.alloc (.cells #[.slice A xs.length c] 22) = W1 at *
  generalize v.alloc (.cells #[.slice A xs.length c] 22) = V1 at *
  have hcl := cell_of_heap (k := 0) (v := .slice A xs.length c) x1 rfl
  refine t_op hT rfl (by rfl) (by first | decide | assumption) (by first | rfl | (rw [hro]; rfl)) (fun w₁ hR K hK => ?_)
  obtain ⟨d, rfl⟩ := hR
  go_simp
  try (unfold stored; go_simp)
  try go_ints
  refine hK _ _ () (da_nil (listed_nil (by simp [go_sem, *])) (Nat.le_refl _)) ?_
  clear hK K
  try simp only [at_alloc, at_set, at_heap]
  refine la_strip hT ?_
  try walk_nrm
  repeat (first | refine t_seq hT ?_ | refine t_block hT ?_ | refine t_skip hT ?_ | refine t_inBlock hT ?_ | refine t_rend hT ?_ | refine t_exit hT rfl ?_)
  refine t_region hT [0, 1, 2, 3, 4, 5, 6, 7] rfl ?_
  refine t_op hT rfl (by rfl) (by first | decide | assumption) (by first | rfl | (rw [hro]; rfl)) (fun w₁ hR K hK => ?_)
  obtain ⟨d, rfl⟩ := hR
  have hcd : (W1.at d).cell? ⟨w.heap.size, 0, none⟩ = _ := hcl
  go_simp
  try (unfold stored; go_simp)
  try go_ints
  refine hK _ _ () (⟨Nat.le_refl _, by co_evs (exact evA_cell (by show w.heap.size < W1.heap.size; omega) hNS)⟩) ?_
  clear hK K
  try simp only [at_alloc, at_set, at_heap]
  refine la_strip hT ?_
  try walk_nrm
  clear hcl
  refine t_call hT rfl (by rfl) (by first | decide | assumption) (by first | rfl | (rw [hro]; rfl)) rfl Try.func40 (by rfl) rfl (by walk_nrm; exact hM V1 W1 hp1 hA1) ?_
  rintro _ ⟨⟩ W2 ⟨ht2, V2, hp2, rfl, τ, rfl⟩
  try walk_nrm
  have x2 : W2.heap[w.heap.size]? = some (.cells #[.slice A xs.length c] 22) := (hp2.same _ hNS).symm.trans ((hp1.same _ hNS).trans x1)
  have e2 : W2.heap.size = w.heap.size + 1 := hp2.size.symm.trans (hp1.size.trans e1)
  have hA2 : RdA (V1.tp τ 0) A xs := hA1
  have l2 : Ltr Sb v (V1.tp τ 0) := ⟨l1.os, l1.output, l1.size, l1.block⟩
  generalize V1.tp τ 0 = V2 at *
  clear hA1 x1 hM hp1 l1
  have hcl := cell_of_heap (k := 0) (v := .slice A xs.length c) x2 rfl
  cases hm : mapOkB xs with
  | false =>
    refine t_op hT rfl (by rfl) (by first | decide | assumption) (by first | rfl | (rw [hro]; rfl)) (fun w₁ hR K hK => ?_)
    obtain ⟨d, rfl⟩ := hR
    go_simp
    try (unfold stored; go_simp)
    try go_ints
    refine hK _ _ () (da_nil (listed_nil (by simp [go_sem, *])) (Nat.le_refl _)) ?_
    clear hK K
    try simp only [at_alloc, at_set, at_heap]
    refine la_strip hT ?_
    try walk_nrm
    refine t_op hT rfl (by rfl) (by first | decide | assumption) (by first | rfl | (rw [hro]; rfl)) (fun w₁ hR K hK => ?_)
    obtain ⟨d, rfl⟩ := hR
    go_simp
    try (unfold stored; go_simp)
    try go_ints
    refine hK _ _ () (da_nil (listed_nil (by simp [go_sem, *])) (Nat.le_refl _)) ?_
    clear hK K
    try simp only [at_alloc, at_set, at_heap]
    refine la_strip hT ?_
    try walk_nrm
    refine t_un hT rfl (by rfl) ?_
    try walk_nrm
    refine t_un hT rfl (by rfl) ?_
    try walk_nrm
    refine t_un hT rfl (by rfl) ?_
    try walk_nrm
    refine t_op hT rfl (by rfl) (by first | decide | assumption) (by first | rfl | (rw [hro]; rfl)) (fun w₁ hR K hK => ?_)
    obtain ⟨d, rfl⟩ := hR
    go_simp
    try (unfold stored; go_simp)
    try go_ints
    refine hK _ _ () (da_nil (listed_nil (by simp [go_sem, *])) (Nat.le_refl _)) ?_
    clear hK K
    try simp only [at_alloc, at_set, at_heap]
    refine la_strip hT ?_
    try walk_nrm
    repeat (first | refine t_seq hT ?_ | refine t_block hT ?_ | refine t_skip hT ?_ | refine t_inBlock hT ?_ | refine t_rend hT ?_ | refine t_exit hT rfl ?_)
    refine t_cond hT (t := _) rfl ?_
    simp only [if_true, if_false, reduceIte, Bool.false_eq_true, *]
    repeat (first | refine t_seq hT ?_ | refine t_block hT ?_ | refine t_skip hT ?_ | refine t_inBlock hT ?_ | refine t_rend hT ?_ | refine t_exit hT rfl ?_)
    refine t_region hT [0] rfl ?_
    refine t_op hT rfl (by rfl) (by first | decide | assumption) (by first | rfl | (rw [hro]; rfl)) (fun w₁ hR K hK => ?_)
    obtain ⟨d, rfl⟩ := hR
    go_simp
    try (unfold stored; go_simp)
    try go_ints
    refine hK _ _ () (da_nil (listed_nil (by simp [go_sem, *])) (Nat.le_refl _)) ?_
    clear hK K
    try simp only [at_alloc, at_set, at_heap]
    refine la_strip hT ?_
    try walk_nrm
    repeat (first | refine t_seq hT ?_ | refine t_block hT ?_ | refine t_skip hT ?_ | refine t_inBlock hT ?_ | refine t_rend hT ?_ | refine t_exit hT rfl ?_)
    subst hT'
    refine t_ret hT rfl rfl rfl Try.func18 (resultsC_tmp (by rfl) _) ?_
    exact hno (.inl hm) _ _ hp2 (ht2.trans t1) l2
  | true =>
    refine t_op hT rfl (by rfl) (by first | decide | assumption) (by first | rfl | (rw [hro]; rfl)) (fun w₁ hR K hK => ?_)
    obtain ⟨d, rfl⟩ := hR
    go_simp
    try (unfold stored; go_simp)
    try go_ints
    refine hK _ _ () (da_nil (listed_nil (by simp [go_sem, *])) (Nat.le_refl _)) ?_
    clear hK K
    try simp only [at_alloc, at_set, at_heap]
    refine la_strip hT ?_
    try walk_nrm
    refine t_op hT rfl (by rfl) (by first | decide | assumption) (by first | rfl | (rw [hro]; rfl)) (fun w₁ hR K hK => ?_)
    obtain ⟨d, rfl⟩ := hR
    go_simp
    try (unfold stored; go_simp)
    try go_ints
    refine hK _ _ () (da_nil (listed_nil (by simp [go_sem, *])) (Nat.le_refl _)) ?_
    clear hK K
    try simp only [at_alloc, at_set, at_heap]
    refine la_strip hT ?_
    try walk_nrm
    refine t_op hT rfl (by rfl) (by first | decide | assumption) (by first | rfl | (rw [hro]; rfl)) (fun w₁ hR K hK => ?_)
    obtain ⟨d, rfl⟩ := hR
    have hcd : (W2.at d).cell? ⟨w.heap.size, 0, none⟩ = _ := hcl
    go_simp
    try (unfold stored; go_simp)
    try go_ints
    refine hK _ _ () (⟨Nat.le_refl _, by co_evs (exact evA_cell (by show w.heap.size < W2.heap.size; omega) hNS)⟩) ?_
    clear hK K
    try simp only [at_alloc, at_set, at_heap]
    refine la_strip hT ?_
    try walk_nrm
    refine t_op hT rfl (by rfl) (by first | decide | assumption) (by first | rfl | (rw [hro]; rfl)) (fun w₁ hR K hK => ?_)
    obtain ⟨d, rfl⟩ := hR
    go_simp
    try (unfold stored; go_simp)
    try go_ints
    refine hK _ _ () (da_nil (listed_nil (by simp [go_sem, *])) (Nat.le_refl _)) ?_
    clear hK K
    try simp only [at_alloc, at_set, at_heap]
    refine la_strip hT ?_
    try walk_nrm
    by_cases h4 : xs.length ≤ 4
    · have hd : decide (4 < (xs.length : Int)) = false := by simp; omega
      refine t_op hT rfl (by rfl) (by first | decide | assumption) (by first | rfl | (rw [hro]; rfl)) (fun w₁ hR K hK => ?_)
      obtain ⟨d, rfl⟩ := hR
      go_simp
      try (unfold stored; go_simp)
      try go_ints
      refine hK _ _ () (da_nil (listed_nil (by simp [go_sem, *])) (Nat.le_refl _)) ?_
      clear hK K
      try simp only [at_alloc, at_set, at_heap]
      refine la_strip hT ?_
      try walk_nrm
      refine t_op hT rfl (by rfl) (by first | decide | assumption) (by first | rfl | (rw [hro]; rfl)) (fun w₁ hR K hK => ?_)
      obtain ⟨d, rfl⟩ := hR
      go_simp
      try (unfold stored; go_simp)
      try go_ints
      refine hK _ _ () (da_nil (listed_nil (by simp [go_sem, *])) (Nat.le_refl _)) ?_
      clear hK K
      try simp only [at_alloc, at_set, at_heap]
      refine la_strip hT ?_
      try walk_nrm
      repeat (first | refine t_seq hT ?_ | refine t_block hT ?_ | refine t_skip hT ?_ | refine t_inBlock hT ?_ | refine t_rend hT ?_ | refine t_exit hT rfl ?_)
      refine t_cond hT (t := _) rfl ?_
      simp only [if_true, if_false, reduceIte, Bool.false_eq_true, *]
      repeat (first | refine t_seq hT ?_ | refine t_block hT ?_ | refine t_skip hT ?_ | refine t_inBlock hT ?_ | refine t_rend hT ?_ | refine t_exit hT rfl ?_)
      refine t_region hT [0, 1, 2, 3, 4] rfl ?_
      refine t_op hT rfl (by rfl) (by first | decide | assumption) (by first | rfl | (rw [hro]; rfl)) (fun w₁ hR K hK => ?_)
      obtain ⟨d, rfl⟩ := hR
      have hcd : (W2.at d).cell? ⟨w.heap.size, 0, none⟩ = _ := hcl
      go_simp
      try (unfold stored; go_simp)
      try go_ints
      refine hK _ _ () (⟨Nat.le_refl _, by co_evs (exact evA_cell (by show w.heap.size < W2.heap.size; omega) hNS)⟩) ?_
      clear hK K
      try simp only [at_alloc, at_set, at_heap]
      refine la_strip hT ?_
      try walk_nrm
      refine t_op hT rfl (by rfl) (by first | decide | assumption) (by first | rfl | (rw [hro]; rfl)) (fun w₁ hR K hK => ?_)
      obtain ⟨d, rfl⟩ := hR
      go_simp
      try (unfold stored; go_simp)
      try go_ints
      refine hK _ _ () (da_nil (listed_nil (by simp [go_sem, *])) (Nat.le_refl _)) ?_
      clear hK K
      try simp only [at_alloc, at_set, at_heap]
      refine la_strip hT ?_
      try walk_nrm
      refine t_op hT rfl (by rfl) (by first | decide | assumption) (by first | rfl | (rw [hro]; rfl)) (fun w₁ hR K hK => ?_)
      obtain ⟨d, rfl⟩ := hR
      go_simp
      try (unfold stored; go_simp)
      try go_ints
      refine hK _ _ () (da_nil (listed_nil (by simp [go_sem, *])) (Nat.le_refl _)) ?_
      clear hK K
      try simp only [at_alloc, at_set, at_heap]
      refine la_strip hT ?_
      try walk_nrm
      have h1 : 1 ≤ xs.length := (mapOkB_elim hm).1.1
      have hnS : ∀ b, W2.heap.size ≤ b → ¬ Sb b := fun b hb => hp2.nsize (by rw [hp2.size]; exact hb)
      have hAS : ∀ ad, A = some ad → ¬ Sb ad.block := fun ad e => by
        obtain ⟨ad2, e3, h3⟩ := hA2 0 (by omega)
        rw [e] at e3
        cases e3
        have := (hp2.cell_some h3).1
        rwa [block_of_add] at this
      refine t_enter hT rfl (by rfl) (by first | decide | assumption) (by first | rfl | (rw [hro]; rfl)) rfl Try.func41 (by rfl) rfl ?_
      walk_nrm
      refine hB W2 _ _ _ (by omega) (fun r hr => by have := hp2.lt r hr; rw [hp2.size] at this; exact this) (fun a w' hLv hk' hsz hq ht hx hg hr => ?_)
      refine hML (Sb := Sb) (Wg := W2.heap.size + 2) (C := W2.heap.size + 3) (bT := W2.heap.size) (bX := W2.heap.size + 1) (SF := fun b => b < W2.heap.size ∧ ¬ Sb b) (Fq := fun W => ∀ b, b < W2.heap.size → ¬ Sb b → W.heap[b]? = W2.heap[b]?) (p := fun g => decide (behindL xs g ≠ [] ∧ behindL xs g = behindL g xs)) (Rj := rowsOf xs.length)
        (tst_withS h1 h4 rfl (by omega) hNS x2 (rdA_true hp2 hA2) hAS) (Nat.le_trans (thatL_len h4) (by omega)) hLv ?_ (fun b hb => ?_) (fun b hb => (hp2.row b hb).of (hk' b ?_)) hg (Nat.le_refl _) (fun M wd ad cp hMl hAll hF hKp hsz2 hlive hrow => ?_)
      · refine ⟨fun b hb => hb.elim False.elim (·.1), ⟨by omega, by omega, hnS _ (by omega)⟩, id, id, fun h => h.2.1 rfl, ⟨0, 0, hg⟩, ⟨_, hr, madeCells_size _ _⟩, fun i c ls hi => by simp at hi, ⟨.inr ⟨by omega, by omega, hnS _ (by omega)⟩, by omega⟩, ht, ⟨.inr ⟨by omega, by omega, hnS _ (by omega)⟩, by omega⟩, cell_of_heap (k := 0) hx rfl, fun b hb => ⟨⟨by have := hb.1; omega, by have := hb.1; omega, hb.2⟩, by have := hb.1; omega⟩, fun b hb _ => hk' b hb, fun b hb => hb.elim⟩
      · have := Nat.lt_of_not_le fun h => hnS b h hb
        exact ⟨by omega, by omega, by omega⟩
      · exact Nat.lt_of_not_le fun h => hnS b h hb
      · clear hT hB hML hno
        have hT := clo_la (P := Try.prog) (Sb := Sw Sb (W2.heap.size + 2)) (Post := Post)
        obtain ⟨V3, hp3⟩ := pr_exists (Sb := Sw Sb (W2.heap.size + 2)) (w := wd) (fun r hr => hr.elim (hrow r) fun e => by rw [e]; exact row_live hlive)
        have hy := hyes hm h4 (W2.heap.size + 2) M V3 wd ad cp (by omega) (fun b hb => ?_) (hAll.heap (fun b hb => hp3.same b fun hs => ?_) fun _ h => h) hp3 (hKp.1.trans (hq.1.trans (ht2.trans t1))) ⟨?_, ?_, ?_, fun b hb hs => ?_⟩
        · change LA Try.prog (Sw Sb (W2.heap.size + 2)) Post () (G (fr.finish (.slice ad ((rowsFrom (fun g => decide (behindL xs g ≠ [] ∧ behindL xs g = behindL g xs)) (rowsOf xs.length) 0 xs.length).flatten).length cp)) cs) wd at hy
          generalize ((rowsFrom (fun g => decide (behindL xs g ≠ [] ∧ behindL xs g = behindL g xs)) (rowsOf xs.length) 0 xs.length).flatten).length = m at *
          generalize LA Try.prog (Sw Sb (W2.heap.size + 2)) Post = T2 at hT hy ⊢
          rw [Frame.finish_atR]
          try walk_nrm
          refine t_op hT rfl (by rfl) (by first | decide | assumption) (by first | rfl | (rw [hro]; rfl)) (fun w₁ hR K hK => ?_)
          obtain ⟨d, rfl⟩ := hR
          go_simp
          try (unfold stored; go_simp)
          try go_ints
          refine hK _ _ () (da_nil (listed_nil (by simp [go_sem, *])) (Nat.le_refl _)) ?_
          clear hK K
          try simp only [at_alloc, at_set, at_heap]
          refine la_strip hT ?_
          try walk_nrm
          repeat (first | refine t_seq hT ?_ | refine t_block hT ?_ | refine t_skip hT ?_ | refine t_inBlock hT ?_ | refine t_rend hT ?_ | refine t_exit hT rfl ?_)
          refine t_ret hT rfl rfl rfl Try.func18 (resultsC_tmp (by rfl) _) ?_
          exact hy
        · have := hMl b hb
          rw [hp3.size]
          exact ⟨by omega, by omega, by omega⟩
        · have := hMl b hb
          rcases hs with hs | hs
          · exact hnS b (by omega) hs
          · omega
        · exact hp3.os.trans (hKp.2.1.trans (hq.2.1.trans (hp2.os.symm.trans l2.os)))
        · exact hp3.output.trans (hKp.2.2.trans (hq.2.2.trans (hp2.output.symm.trans l2.output)))
        · rw [hp3.size]; omega
        · have hb2 : b < W2.heap.size := by omega
          exact (hp3.same b fun h => h.elim hs fun h => by omega).trans ((hF b hb2 hs).trans ((hp2.same b hs).symm.trans (l2.block b hb hs)))
    · have hd : decide (4 < (xs.length : Int)) = true := by simp; omega
      refine t_op hT rfl (by rfl) (by first | decide | assumption) (by first | rfl | (rw [hro]; rfl)) (fun w₁ hR K hK => ?_)
      obtain ⟨d, rfl⟩ := hR
      go_simp
      try (unfold stored; go_simp)
      try go_ints
      refine hK _ _ () (da_nil (listed_nil (by simp [go_sem, *])) (Nat.le_refl _)) ?_
      clear hK K
      try simp only [at_alloc, at_set, at_heap]
      refine la_strip hT ?_
      try walk_nrm
      refine t_op hT rfl (by rfl) (by first | decide | assumption) (by first | rfl | (rw [hro]; rfl)) (fun w₁ hR K hK => ?_)
      obtain ⟨d, rfl⟩ := hR
      go_simp
      try (unfold stored; go_simp)
      try go_ints
      refine hK _ _ () (da_nil (listed_nil (by simp [go_sem, *])) (Nat.le_refl _)) ?_
      clear hK K
      try simp only [at_alloc, at_set, at_heap]
      refine la_strip hT ?_
      try walk_nrm
      repeat (first | refine t_seq hT ?_ | refine t_block hT ?_ | refine t_skip hT ?_ | refine t_inBlock hT ?_ | refine t_rend hT ?_ | refine t_exit hT rfl ?_)
      refine t_cond hT (t := _) rfl ?_
      simp only [if_true, if_false, reduceIte, Bool.false_eq_true, *]
      repeat (first | refine t_seq hT ?_ | refine t_block hT ?_ | refine t_skip hT ?_ | refine t_inBlock hT ?_ | refine t_rend hT ?_ | refine t_exit hT rfl ?_)
      refine t_region hT [0] rfl ?_
      refine t_op hT rfl (by rfl) (by first | decide | assumption) (by first | rfl | (rw [hro]; rfl)) (fun w₁ hR K hK => ?_)
      obtain ⟨d, rfl⟩ := hR
      go_simp
      try (unfold stored; go_simp)
      try go_ints
      refine hK _ _ () (da_nil (listed_nil (by simp [go_sem, *])) (Nat.le_refl _)) ?_
      clear hK K
      try simp only [at_alloc, at_set, at_heap]
      refine la_strip hT ?_
      try walk_nrm
      repeat (first | refine t_seq hT ?_ | refine t_block hT ?_ | refine t_skip hT ?_ | refine t_inBlock hT ?_ | refine t_rend hT ?_ | refine t_exit hT rfl ?_)
      subst hT'
      refine t_ret hT rfl rfl rfl Try.func18 (resultsC_tmp (by rfl) _) ?_
      exact hno (.inr (by omega)) _ _ hp2 (ht2.trans t1) l2
end
end Go.Proofs.Ytkbfcaaihellfaa

/- Rows of rows that are read; the rows that mapsThat hands back; a loop, a goroutine alone. -/
namespace Go.Proofs.Ytkbfcaaihellfaa
open Go.Conc Go.ConcN Go.RowKit
open Go.ConcR (Payload)
set_option linter.unusedVariables false
set_option linter.unusedSectionVars false

/-- the slice value A reads as the rows xss -/
def RdRR (w : World) (A : Option Addr) (xss : List (List Int)) : Prop := ∀ k, k < xss.length → ∃ ad D d, A = some ad ∧ w.cell? (ad.add k) = some (.slice D (gl xss k).length d) ∧ RdA w D (gl xss k)
section
variable {Sb : Nat → Prop} {v v' w : World} {A : Option Addr} {xss : List (List Int)}
theorem OwnRR.rd {B n c : Nat} (h : OwnRR B w (.slice A n c) xss) : RdRR w A xss := fun k hk => by
  obtain ⟨g, D, d, e, _, h1, h2⟩ := h.at_ hk
  refine ⟨_, D, d, e, ?_, h2.rd⟩
  have e2 : (⟨g, 0, none⟩ : Addr).add k = ⟨g, k, none⟩ := by unfold Addr.add; split <;> simp_all
  rw [e2]
  exact h1
theorem RdRR.ltr (hp : PR Sb v w) (h : RdRR v A xss) (l : Ltr Sb v v') : RdRR v' A xss := fun k hk => by
  obtain ⟨ad, D, d, e, h1, h2⟩ := h k hk
  have a1 := (hp.cell_some h1).1
  have a2 := cell_lt h1
  refine ⟨ad, D, d, e, ?_, rdA_ltr hp h2 l⟩
  rw [← h1]
  simp only [World.cell?, l.block _ a2 a1]
theorem own_base {B : Nat} {u : Value} {xs : List Int} (h : Own 0 w u xs) (hb : ∀ N, u.ownBlock = some N → B ≤ N) : Own B w u xs := by
  refine ⟨h.1, ?_⟩
  rcases h.2 with h2 | ⟨g, cap, cur, hv, hg, r⟩
  · exact .inl h2
  · exact .inr ⟨g, cap, cur, hv, hb g (by rw [hv]; rfl), r⟩
/-- what mapsThat hands back is the caller's own -/
theorem allR_own {M : Nat → Prop} {B n cp : Nat} {ad : Option Addr} {R : List (List Int)} (h : AllR M (.slice ad n cp) R w) (hM : ∀ b, M b → B ≤ b) : OwnRR B w (.slice ad n cp) R := by
  obtain ⟨vs, h1, h2, h3⟩ := h
  have hl : vs.length = R.length := h1.1.trans (Nat.mul_one _)
  refine ⟨vs, ?_, hl, fun k hk => ?_⟩
  · unfold RowR
    rw [hl]
    refine ⟨h1.1, ?_⟩
    rcases h1.2 with h4 | ⟨g, cap, cur, hv, hg, r⟩
    · exact .inl h4
    · exact .inr ⟨g, cap, cur, hv, hM g (h2 g (by rw [hv]; rfl)), r⟩
  · obtain ⟨r, o, u, e1, e2, e3, ⟨c, rfl, e4⟩, _⟩ := h3 k (gl R k) (by simp [gl, hk])
    exact ⟨some ⟨r, 0, none⟩, c, e1, own_base (e4 w e3) fun N e => by cases e; exact hM r e2⟩
end

section
variable {P : Program} {main : Bool} {γ : Type} {R : γ → World → World → Prop} {D : γ → World → World → Array Event → γ → Prop} {T : γ → Goroutine → World → Prop} {b : Frame} {k : List Item} {cs : List Frame} {y : γ} {body : Code}
/-- A LOOP, by a measure that each round lowers. -/
theorem loop_ind (hT : Clo P main R D T) (I : Nat → Act → World → Prop) (h : ∀ (m : Nat) (a : Act) (w : World), I m a w → (∀ (m' : Nat) (a' : Act) (w' : World), m' < m → I m' a' w' → T y (G (b.atR a' (.inLoop body :: k)) cs) w') → T y (G (b.atR a (.code body :: .inLoop body :: k)) cs) w) :
    ∀ (m : Nat) (a : Act) (w : World), I m a w → T y (G (b.atR a (.inLoop body :: k)) cs) w := by
  intro m
  induction m using Nat.strongRecOn with
  | ind m ih => exact fun a w hI => t_inLoop hT (h m a w hI fun m' a' w' hm hI' => ih m' hm a' w' hI')
theorem loop_begin (hT : Clo P main R D T) (I : Nat → Act → World → Prop) {m : Nat} {a : Act} {w : World} (hI : I m a w) (h : ∀ (m : Nat) (a : Act) (w : World), I m a w → (∀ (m' : Nat) (a' : Act) (w' : World), m' < m → I m' a' w' → T y (G (b.atR a' (.inLoop body :: k)) cs) w') → T y (G (b.atR a (.code body :: .inLoop body :: k)) cs) w) :
    T y (G (b.atR a (.code (.loop body) :: k)) cs) w :=
  t_loop1 hT (h m a w hI fun m' a' w' _ hI' => loop_ind hT I h m' a' w' hI')
end
end Go.Proofs.Ytkbfcaaihellfaa

/- Contracts of chapter 6: how many turns go with a turn. -/
namespace Go.Proofs.Ytkbfcaaihellfaa
open Go.RowKit
set_option linter.unusedVariables false

theorem turnsV_yes {f : List Int} (h : turnedB f = true) : turnsV f = twI (kindsL f) f.length := if_pos h
theorem turnsV_no {f : List Int} (h : turnedB f = false) : turnsV f = -1 := if_neg (by rw [h]; simp)
theorem tw_step (K : List Int) (k c : Nat) : twI K k * facL ((k : Int) + 1) (c + 1) = twI K k * facL ((k : Int) + 1) c * (((c : Int) + 1) * ((k : Int) + 1)) := by
  rw [facL, Int.mul_assoc]

set_option maxHeartbeats 1000000 in
theorem iTurnsWith_c (A : Option Addr) (c : Nat) (f : List Int) (w : World) (hR : RdA w A f) (hn : f.length ≤ 1048577) :
    Calls Try.prog 33 #[.slice A f.length c] w fun e w' => e = .returned (.int .i64 (turnsV f)) ∧ Below w.heap.size w w' := by
  have c1 := iTurnedOf_c A c f w hR hn
  by_cases ht : turnedB f = true
  · have HT := hid (turnsV_yes ht)
    have hf := (turnedB_iff.1 ht).1
    have h7 := hf.1.2
    obtain ⟨hkl, hs, hw⟩ := kinds_sums hf
    have hon := onN_le f
    have hlen := loopsLL_len f h7
    have HK := hid (fun p => kinds_range hf p)
    have HM := hid (fun (k : Nat) (hk : k < f.length) (c : Nat) (hc : c ≤ (nth (kindsL f) k).toNat) => tw_mid (xs := kindsL f) (fun p => (HK.out p).1) (n := f.length) (by omega) (by omega) hk hc)
    rw [ht] at c1
    have C2 := hid (fun W (hb : Below w.heap.size w W) => iLoopKinds_c A c f W (hR.below hb) hn)
    clear ht hR hf hs hw hon hlen
    generalize kindsL f = K at *
    rw [← hkl] at HT HM h7
    clear hkl
    go_enter Try.func33, Try.ntmps33
    go_wp2_with fail
    refine c1.mono ?_; rintro e w2 ⟨A2, c2, rfl, -, b2, -⟩
    have k2 := hid (C2.out w2 b2)
    clear C2 c1
    go_wp2_with fail
    refine k2.out.mono ?_; rintro e w3 ⟨A3, c3, rfl, o3, b3⟩
    have b3' := b2.trans (b3.mono b2.size)
    have HR := hid o3.rd
    clear k2 b2 b3 o3
    go_wp2_with fail
    go_loop [5, 20] (fun p i => ∃ k : Nat, k ≤ K.length ∧ i = .int .i64 k ∧ p = .int .i64 (twI K k)) (fun _ i => K.length - (intOf i).toNat)
    case atStart => exact ⟨0, Nat.zero_le _, rfl, rfl⟩
    case round =>
      obtain ⟨k, hk, rfl, rfl⟩ := hrel
      by_cases hlt : k < K.length
      · obtain ⟨ad, rfl, hc⟩ := HR.out k hlt
        obtain ⟨hx0, hx7⟩ := HK.out k
        obtain ⟨C, hC⟩ := Int.eq_ofNat_of_zero_le hx0
        have HM' := hid (fun c (h : c ≤ C) => HM.out k hlt c (by rw [hC]; exact h))
        have HE := hid (show twI K (k + 1) = twI K k * facL ((k : Int) + 1) C by rw [twI, hC]; rfl)
        rw [hC] at hc hx0 hx7
        clear hC
        go_wp2_with fail
        go_loop [5, 9] (fun p i => ∃ c : Nat, c ≤ C ∧ i = .int .i64 ((c : Int) + 1) ∧ p = .int .i64 (twI K k * facL ((k : Int) + 1) c)) (fun _ i => C + 1 - (intOf i).toNat)
        case atStart => exact ⟨0, Nat.zero_le _, rfl, by simp [facL]⟩
        case round =>
          obtain ⟨c, hcC, rfl, rfl⟩ := hrel
          by_cases hlc : c < C
          · obtain ⟨m0, m1⟩ := HM'.out c (by omega)
            obtain ⟨m2, m3⟩ := HM'.out (c + 1) (by omega)
            have HS := hid (tw_step K k c)
            rw [HS.out] at m2 m3
            have n0 : 0 ≤ ((c : Int) + 1) * ((k : Int) + 1) := Int.mul_nonneg (by omega) (by omega)
            have n1 : ((c : Int) + 1) * ((k : Int) + 1) ≤ 7 * 7 := Int.mul_le_mul (by omega) (by omega) (by omega) (by omega)
            generalize twI K k * facL ((k : Int) + 1) c = P at *
            go_wp2_with fail
            go_round
            case rel => exact ⟨c + 1, by omega, by go_num, by rw [HS.out]⟩
            case measure => simp [intOf]; omega
          · obtain rfl : c = C := by omega
            rw [← HE.out]
            have q1 : decide ((c : Int) + 1 ≤ (c : Int)) = false := decide_eq_false (by omega)
            go_wp2_with fail
            go_round
            case rel => exact ⟨k + 1, by omega, by go_num, rfl⟩
            case measure => simp [intOf]; omega
      · obtain rfl : k = K.length := by omega
        rw [← HT.out]
        go_wp2_with fail
        go_ret
        exact ⟨rfl, b3'⟩
  · have ht' : turnedB f = false := by simpa using ht
    have HT := hid (turnsV_no ht')
    rw [ht'] at c1
    clear ht ht' hR
    go_enter Try.func33, Try.ntmps33
    go_wp2_with fail
    refine c1.mono ?_; rintro e w2 ⟨A2, c2, rfl, -, b2, -⟩
    clear c1
    go_wp2_with fail
    go_ret
    exact ⟨ret_int HT.out.symm, b2⟩

set_option maxHeartbeats 1000000 in
theorem sTurnsWith_c (A : Option Addr) (c : Nat) (f : List Int) (w : World) (hR : RdA w A f) (hn : f.length ≤ 1048577) :
    Calls Try.prog 34 #[.slice A f.length c] w fun e w' => e = .returned (.int .i64 (turnsV f)) ∧ Below w.heap.size w w' := by
  have c1 := sTurnedOf_c A c f w hR hn
  by_cases ht : turnedB f = true
  · have HT := hid (turnsV_yes ht)
    have hf := (turnedB_iff.1 ht).1
    have h7 := hf.1.2
    obtain ⟨hkl, hs, hw⟩ := kinds_sums hf
    have hon := onN_le f
    have hlen := loopsLL_len f h7
    have HK := hid (fun p => kinds_range hf p)
    have HM := hid (fun (k : Nat) (hk : k < f.length) (c : Nat) (hc : c ≤ (nth (kindsL f) k).toNat) => tw_mid (xs := kindsL f) (fun p => (HK.out p).1) (n := f.length) (by omega) (by omega) hk hc)
    rw [ht] at c1
    have C2 := hid (fun W (hb : Below w.heap.size w W) => sLoopKinds_c A c f W (hR.below hb) hn)
    clear ht hR hf hs hw hon hlen
    generalize kindsL f = K at *
    rw [← hkl] at HT HM h7
    clear hkl
    go_enter Try.func34, Try.ntmps34
    go_wp2_with fail
    refine c1.mono ?_; rintro e w2 ⟨A2, c2, rfl, -, b2⟩
    have k2 := hid (C2.out w2 b2)
    clear C2 c1
    go_wp2_with fail
    refine k2.out.mono ?_; rintro e w3 ⟨A3, c3, rfl, o3, b3⟩
    have b3' := b2.trans (b3.mono b2.size)
    have HR := hid o3.rd
    clear k2 b2 b3 o3
    go_wp2_with fail
    go_loop [5, 7] (fun p i => ∃ k : Nat, k ≤ K.length ∧ i = .int .i64 k ∧ p = .int .i64 (twI K k)) (fun _ i => K.length - (intOf i).toNat)
    case atStart => exact ⟨0, Nat.zero_le _, rfl, rfl⟩
    case round =>
      obtain ⟨k, hk, rfl, rfl⟩ := hrel
      by_cases hlt : k < K.length
      · obtain ⟨ad, rfl, hc⟩ := HR.out k hlt
        obtain ⟨hx0, hx7⟩ := HK.out k
        obtain ⟨C, hC⟩ := Int.eq_ofNat_of_zero_le hx0
        have HM' := hid (fun c (h : c ≤ C) => HM.out k hlt c (by rw [hC]; exact h))
        have HE := hid (show twI K (k + 1) = twI K k * facL ((k : Int) + 1) C by rw [twI, hC]; rfl)
        rw [hC] at hc hx0 hx7
        clear hC
        go_wp2_with fail
        go_loop [5, 8] (fun p i => ∃ c : Nat, c ≤ C ∧ i = .int .i64 ((c : Int) + 1) ∧ p = .int .i64 (twI K k * facL ((k : Int) + 1) c)) (fun _ i => C + 1 - (intOf i).toNat)
        case atStart => exact ⟨0, Nat.zero_le _, rfl, by simp [facL]⟩
        case round =>
          obtain ⟨c, hcC, rfl, rfl⟩ := hrel
          by_cases hlc : c < C
          · obtain ⟨m0, m1⟩ := HM'.out c (by omega)
            obtain ⟨m2, m3⟩ := HM'.out (c + 1) (by omega)
            have HS := hid (show twI K k * facL ((k : Int) + 1) (c + 1) = twI K k * facL ((k : Int) + 1) c * ((c : Int) + 1) * ((k : Int) + 1) by rw [tw_step, Int.mul_assoc (twI K k * facL ((k : Int) + 1) c)])
            rw [HS.out] at m2 m3
            generalize twI K k * facL ((k : Int) + 1) c = P at *
            have n0 : 0 ≤ P * ((c : Int) + 1) := Int.mul_nonneg m0 (by omega)
            have n1 : P * ((c : Int) + 1) ≤ 823543 * 7 := Int.mul_le_mul m1 (by omega) (by omega) (by omega)
            go_wp2_with fail
            go_round
            case rel => exact ⟨c + 1, by omega, by go_num, by rw [HS.out]⟩
            case measure => simp [intOf]; omega
          · obtain rfl : c = C := by omega
            rw [← HE.out]
            have q1 : decide ((c : Int) + 1 ≤ (c : Int)) = false := decide_eq_false (by omega)
            go_wp2_with fail
            go_round
            case rel => exact ⟨k + 1, by omega, by go_num, rfl⟩
            case measure => simp [intOf]; omega
      · obtain rfl : k = K.length := by omega
        rw [← HT.out]
        go_wp2_with fail
        go_ret
        exact ⟨rfl, b3'⟩
  · have ht' : turnedB f = false := by simpa using ht
    have HT := hid (turnsV_no ht')
    rw [ht'] at c1
    clear ht ht' hR
    go_enter Try.func34, Try.ntmps34
    go_wp2_with fail
    refine c1.mono ?_; rintro e w2 ⟨A2, c2, rfl, -, b2⟩
    clear c1
    go_wp2_with fail
    go_ret
    exact ⟨ret_int HT.out.symm, b2⟩

end Go.Proofs.Ytkbfcaaihellfaa

/- Contracts of plain functions, a goroutine alone on whatever schedule; the law's return. -/
namespace Go.Proofs.Ytkbfcaaihellfaa
open Go.Conc Go.ConcN Go.ConcN.Gen Go.RowKit Go.Conc.Lib Go.ConcR.Gen
set_option linter.unusedVariables false
set_option linter.unusedSectionVars false

section
variable {Sb : Nat → Prop} {Post : Value → World → Prop} {v w W0 : World} {A : Option Addr} {c : Nat} {xs : List Int}
/-- a contract in LA -/
abbrev CLA (Sb : Nat → Prop) (Post : Value → World → Prop) (f : FuncId) (args : Array Value) (w : World) (Res : Value → World → Prop) : Prop :=
  CallsT Try.prog (LA Try.prog Sb Post) f args () w (fun x _ w' => w'.tape = w.tape ∧ ∃ v', PR Sb v' w' ∧ Res x v')
theorem turnsWith_la (hp : PR Sb v w) (hA : RdA v A xs) (hn : xs.length ≤ 1048577) : CLA Sb Post 33 #[.slice A xs.length c] w fun x v' => x = .int .i64 (turnsV xs) ∧ Ltr Sb v v' :=
  callsLA (by rfl) hp (fun τ => iTurnsWith_c A c xs (v.tp τ 0) hA hn) fun τ e v' h => ⟨_, h.1, rfl, ltr_of_below h.2⟩
theorem sTurnsWith_la (hp : PR Sb v w) (hA : RdA v A xs) (hn : xs.length ≤ 1048577) : CLA Sb Post 34 #[.slice A xs.length c] w fun x v' => x = .int .i64 (turnsV xs) ∧ Ltr Sb v v' :=
  callsLA (by rfl) hp (fun τ => sTurnsWith_c A c xs (v.tp τ 0) hA hn) fun τ e v' h => ⟨_, h.1, rfl, ltr_of_below h.2⟩
theorem turnedOf_la (hp : PR Sb v w) (hA : RdA v A xs) (hn : xs.length ≤ 1048577) : CLA Sb Post 35 #[.slice A xs.length c] w fun x v' => (∃ B d, x = .tuple #[.slice B (turnedL xs).length d, .bool (turnedB xs)] ∧ RdA v' B (turnedL xs)) ∧ Ltr Sb v v' :=
  callsLA (by rfl) hp (fun τ => iTurnedOf_c A c xs (v.tp τ 0) hA hn) fun τ e v' h => let ⟨B, d, e1, ho, hb, _⟩ := h; ⟨_, e1, ⟨B, d, rfl, ho.rd⟩, ltr_of_below hb⟩
theorem alive_la (hp : PR Sb v w) : CLA Sb Post 21 #[] w fun x v' => x = .bool true ∧ Ltr Sb v v' :=
  callsLA (by rfl) hp (fun τ => alive_c (v.tp τ 0)) fun τ e v' h => ⟨_, h.1, rfl, ltr_of_below h.2⟩
theorem drawTurnsWith_la {a : Option Addr} {len cap : Nat} {zs : List Int} (hp : PR Sb v w) (h : RowIn .u8 v a len cap zs) (hn : len ≤ 1048576) : CLA Sb Post 32 #[.slice a len cap] w fun x v' => (∃ (xs : List Int) (A : Option Addr) (c : Nat), xs.length ≤ 8 ∧ x = .slice A xs.length c ∧ RdA v' A xs) ∧ Ltr Sb v v' :=
  callsLA (by rfl) hp (fun τ => DrawTurnsWith_c a len cap zs (v.tp τ 0) h hn) fun τ e v' h => let ⟨xs, A, c, h1, e1, ho, hb⟩ := h; ⟨_, e1, ⟨xs, A, c, h1, rfl, ho.rd⟩, ltr_of_below hb⟩
theorem ret_done {f : FuncId} {fn : Func} {t : Tmp} {a : Act} {k : List Item} {w : World} {v : Value} (hd : a.defers = []) (hf : Try.prog.funcs[f]? = some fn) (hr : fn.results = #[.tmp t]) (hi : Try.prog.inits.idxOf? f = none) (hv : a.tmps.getD t undef = v) :
    stepG Try.prog true (G { (base f).at a k with mode := .returning } []) w = .ended (.done v) w #[] := by
  have hc := resultsC_tmp (P := Try.prog) hr a.tmps w
  rw [hv] at hc
  simp only [Frame.at, base, G]
  unfold stepG
  simp at hi
  simp [unwind, hd, hf, hc.1, hc.2, doReturn, hi, GStep.after, seen]
/-- THE RETURN of the law. -/
theorem la_ret {f : FuncId} {fn : Func} {t : Tmp} {a : Act} {k : List Item} {x : Value} (hd : a.defers = []) (hf : Try.prog.funcs[f]? = some fn) (hr : fn.results = #[.tmp t]) (hi : Try.prog.inits.idxOf? f = none) (hv : a.tmps.getD t undef = x) (hp : ∀ d, Post x (w.at d)) :
    LA Try.prog Sb Post () (G ((base f).atR a (.code .ret :: k)) []) w := by
  have hT := clo_la (P := Try.prog) (Sb := Sb) (Post := Post)
  refine hT.ctl (g' := G { (base f).atR a (.code .ret :: k) with mode := .returning } []) rfl (fun w => by rw [Frame.atR_of_none rfl]; exact stepG_ret') ?_
  refine la_done rfl (fun d => ?_) hp
  rw [Frame.atR_of_none rfl]
  exact ret_done hd hf hr hi hv
end
end Go.Proofs.Ytkbfcaaihellfaa

/- RootsOf and AllWith, a goroutine alone on whatever schedule: what they hand back, and what stands. -/
namespace Go.Proofs.Ytkbfcaaihellfaa
open Go.Conc Go.ConcN Go.RowKit
set_option linter.unusedVariables false
set_option linter.unusedSectionVars false

def rootsV (f : List Int) : List (List Int) := if mapOkB f = true ∧ f.length ≤ 4 then rootsL f else []
def withV (f : List Int) : List (List Int) := if mapOkB f = true ∧ f.length ≤ 4 then withL f else []
/-- what a call of RootsOf or AllWith leaves: the rows L, on blocks M of its own -/
structure Got (v : World) (L : List (List Int)) (Sb' : Nat → Prop) (M : Nat → Prop) (v' : World) (ad : Option Addr) (cp : Nat) : Prop where
  bd : ∀ b, M b → v.heap.size ≤ b ∧ b < v'.heap.size ∧ ¬ Sb' b
  rows : AllR M (.slice ad L.length cp) L v'
section
variable {Sb : Nat → Prop} {Post : Value → World → Prop} {v w W0 : World} {A : Option Addr} {c : Nat} {xs : List Int} {fr : Frame} {cs : List Frame}
theorem Got.none : Got v [] Sb (fun _ => False) v none 0 := ⟨fun b h => h.elim, AllR.nil⟩
theorem rootsOf_i (hi : Inv Sb W0 v w) (hA : RdA v A xs) (hn : xs.length ≤ 1048577)
    (h : ∀ (Sb' M : Nat → Prop) (v' w' : World) (ad : Option Addr) (cp : Nat), (∀ b, b < v.heap.size → Sb' b → Sb b) → Inv Sb' W0 v' w' → Ltr Sb v v' → Got v (rootsV xs) Sb' M v' ad cp → LA Try.prog Sb' Post () (G (fr.finish (.slice ad (rootsV xs).length cp)) cs) w') :
    LA Try.prog Sb Post () (G (Frame.enter Try.prog 11 #[.slice A xs.length c] .normal) (fr :: cs)) w := by
  refine rootsOf_la hi.pr hA hn (fun hno v' w' hp ht l => ?_) (fun hm h4 Wg M v' w' ad cp hW hM hR hp ht l => ?_)
  · have e : rootsV xs = [] := by
      unfold rootsV
      rw [if_neg (by rcases hno with e | e <;> simp [e] <;> omega)]
    have := h Sb (fun _ => False) v' w' none 0 (fun _ _ hs => hs) (hi.ltr l hp ht) l (by rw [e]; exact ⟨fun b h => h.elim, AllR.nil⟩)
    rw [e] at this
    exact this
  · have e : rootsV xs = rootsL xs := by
      unfold rootsV
      rw [if_pos ⟨hm, h4⟩]
    have := h (Sw Sb Wg) M v' w' ad cp (fun b hb hs => hs.elim id fun e => by omega) (hi.ltrW l hW hp ht) l (by
      rw [e]
      exact ⟨fun b hb => ⟨(hM b hb).1, (hM b hb).2.1, fun hs => hs.elim (fun hs => hi.pr.nsize (hM b hb).1 hs) fun e => (hM b hb).2.2 e⟩, hR⟩)
    rw [e] at this
    exact this
theorem allWith_i (hi : Inv Sb W0 v w) (hA : RdA v A xs) (hn : xs.length ≤ 1048577)
    (h : ∀ (Sb' M : Nat → Prop) (v' w' : World) (ad : Option Addr) (cp : Nat), (∀ b, b < v.heap.size → Sb' b → Sb b) → Inv Sb' W0 v' w' → Ltr Sb v v' → Got v (withV xs) Sb' M v' ad cp → LA Try.prog Sb' Post () (G (fr.finish (.slice ad (withV xs).length cp)) cs) w') :
    LA Try.prog Sb Post () (G (Frame.enter Try.prog 18 #[.slice A xs.length c] .normal) (fr :: cs)) w := by
  refine allWith_la hi.pr hA hn (fun hno v' w' hp ht l => ?_) (fun hm h4 Wg M v' w' ad cp hW hM hR hp ht l => ?_)
  · have e : withV xs = [] := by
      unfold withV
      rw [if_neg (by rcases hno with e | e <;> simp [e] <;> omega)]
    have := h Sb (fun _ => False) v' w' none 0 (fun _ _ hs => hs) (hi.ltr l hp ht) l (by rw [e]; exact ⟨fun b h => h.elim, AllR.nil⟩)
    rw [e] at this
    exact this
  · have e : withV xs = withL xs := by
      unfold withV
      rw [if_pos ⟨hm, h4⟩]
    have := h (Sw Sb Wg) M v' w' ad cp (fun b hb hs => hs.elim id fun e => by omega) (hi.ltrW l hW hp ht) l (by
      rw [e]
      exact ⟨fun b hb => ⟨(hM b hb).1, (hM b hb).2.1, fun hs => hs.elim (fun hs => hi.pr.nsize (hM b hb).1 hs) fun e => (hM b hb).2.2 e⟩, hR⟩)
    rw [e] at this
    exact this
theorem Got.own {L : List (List Int)} {Sb' M : Nat → Prop} {v' : World} {ad : Option Addr} {cp : Nat} (h : Got v L Sb' M v' ad cp) : OwnRR v.heap.size v' (.slice ad L.length cp) L := allR_own h.rows fun b hb => (h.bd b hb).1
theorem Got.rd {L : List (List Int)} {Sb' M : Nat → Prop} {v' : World} {ad : Option Addr} {cp : Nat} (h : Got v L Sb' M v' ad cp) : RdRR v' ad L := h.own.rd
end
end Go.Proofs.Ytkbfcaaihellfaa
