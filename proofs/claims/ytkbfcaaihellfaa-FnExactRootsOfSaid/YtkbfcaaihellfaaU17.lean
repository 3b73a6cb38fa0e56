/- Steps on the way to the law; each part says what it proves. -/
import Derived.Test.YtkbfcaaihellfaaU16

set_option linter.unusedSimpArgs false

/- Walks in company: one round of a worker's loop. -/
namespace Go.Proofs.Ytkbfcaaihellfaa
open Go.Conc Go.ConcN Go.RowKit
set_option linter.unusedVariables false
set_option linter.unusedSectionVars false

/-- a row's block and value -/
def RwI (xs : List Int) (r : Nat) (o : Obj) (v : Value) : Prop := ∃ c, v = .slice (some ⟨r, 0, none⟩) xs.length c ∧ ∀ w : World, w.heap[r]? = some o → Own 0 w v xs
theorem rwI_of {w : World} {xs : List Int} {r c : Nat} (h : Own 0 w (.slice (some ⟨r, 0, none⟩) xs.length c) xs) : ∃ o, w.heap[r]? = some o ∧ RwI xs r o (.slice (some ⟨r, 0, none⟩) xs.length c) := by
  have hh := h
  obtain ⟨h1, h2⟩ := hh
  rcases h2 with ⟨h2, _⟩ | ⟨g, cap, cur, h2, h3, h4, h5⟩
  · cases h2
  · have eg : g = r := by cases h2; rfl
    subst eg
    exact ⟨_, h4, c, rfl, fun w1 hw1 => h.heap (hw1.trans h4.symm)⟩

noncomputable def rf58 : Code × Code := match (Try.f58).body with
  | some (.seq _ (.seq _ (.seq _ (.block _ (.rangeFunc _ _ a b))))) => (a, b)
  | _ => (.skip, .skip)
/-- the frame of a worker's loop -/
def tm58 (v0 : Value) (bL bT bF bX : Nat) (v6 v7 v8 v9 v10 : Value) : Array Value := #[v0, .pointer (some ⟨bL, 0, none⟩), .pointer (some ⟨bT, 0, none⟩), .pointer (some ⟨bF, 0, none⟩), .pointer (some ⟨bX, 0, none⟩), undef, v6, v7, v8, v9, v10, undef, undef, undef, undef, undef, undef]

section
variable [Go.ConcR.Payload] {ty : TypeId} {Wg C n LW : Nat} {S : Nat → Prop} {c k : Nat} {y : Gh} {w : World}
theorem rdA_heap {w w1 : World} {A : Option Addr} {xs : List Int} (h : ∀ ad, A = some ad → w1.heap[ad.block]? = w.heap[ad.block]?) (hA : RdA w A xs) : RdA w1 A xs := fun k hk => by
  obtain ⟨ad, e, hc⟩ := hA k hk
  refine ⟨ad, e, ?_⟩
  have h1 := h ad e
  rw [← hc]
  simp [World.cell?, block_of_add, h1]
theorem gy_drop {l r : Nat} {M : Nat → Prop} {L L' : List (List Int)} {w1 : World} (g : Gy ty Wg S l y w (M, L) w1) (h : ∀ b, y.1 b → b ≠ r) : Gy ty Wg S l y w (fun b => M b ∧ b ≠ r, L') w1 :=
  ⟨g.keep, g.size, g.live, fun b hb => ⟨g.sub b hb, h b hb⟩, fun b hb => g.bd b (hb.imp (·.1) id)⟩
/-- WHAT STANDS AROUND A WORKER: the boxes that it reads; the test. -/
structure Around (ty : TypeId) (Wg C n LW : Nat) (S : Nat → Prop) (c k : Nat) (Fx : World → Prop) (bL bX fF : Nat) (cap : Array Value) (p : List Int → Bool) : Prop where
  rely : ∀ w w₁ : World, (∀ b, S b → w₁.heap[b]? = w.heap[b]?) → Fx w → Fx w₁
  lane : ∀ w, Fx w → w.cell? ⟨bL, 0, none⟩ = some (.chan (some c))
  sl : S bL
  fits : ∀ w, Fx w → w.cell? ⟨bX, 0, none⟩ = some (.func (.func fF) #[] cap)
  sx : S bX
  code : ∃ fn code, Try.prog.funcs[fF]? = some fn ∧ (fn.name == "runtime.NumGoroutine") = false ∧ fn.body = some code
  test : ∀ (y : Gh) (w : World) (ad : Addr) (cc : Nat) (xs : List Int), RdA w (some ad) xs → Sees y S (some ad) → xs.length ≤ 1048577 → Bd S y w → Fx w →
    CallsT Try.prog (TW Try.prog ty Wg C n LW RwI S c k) fF (#[.slice (some ad) xs.length cc] ++ cap) y w fun v y' w' => v = .bool (p xs) ∧ Gw ty Wg S y w y' w'
variable {Fx : World → Prop} {bL bX fF : Nat} {cap : Array Value} {p : List Int → Bool}
theorem Around.fx (A : Around ty Wg C n LW S c k Fx bL bX fF cap p) {w1 : World} (r : RG ty Wg S y w w1) (h : Fx w) : Fx w1 := A.rely w w1 (fun b hb => r.keep b (.inr hb)) h
theorem run_callv {a : Act} {o : Oper} {x z : Operand} {ats : Array TypeId} {fn : Func} {code : Code} (hop : o.op = .call { callee := .value x, args := #[z], argTypes := ats }) (hx : a.eval x = .func (.func fF) #[] cap)
    (hf : Try.prog.funcs[fF]? = some fn) (hname : (fn.name == "runtime.NumGoroutine") = false) (hb : fn.body = some code) (w : World) : (execOp a.eval o).run Try.prog w = .ok (.enter fF (#[a.eval z] ++ cap)) w ∧ (execOp a.eval o).events Try.prog w #[] = #[] := by
  have h1 : ¬ fn.name = "runtime.NumGoroutine" := by simpa using hname
  have h2 : ¬ fn.body = none := by rw [hb]; simp
  unfold execOp
  constructor <;> simp [hop, resolve, Deferred.ofValue, hx, invoke, callFunc, hf, h1, h2]

set_option maxHeartbeats 4000000 in
theorem round_g (A : Around ty Wg C n LW S c k Fx bL bX fF cap p) (v0 : Value) (bT bF : Nat) (v6 v7 v8 v9 : Value) (l r N nc : Nat) (xs : List Int) (rest : List (List Int)) (fr : Frame) (cs : List Frame)
    (hB : Bd S y w) (hm : y.1 l) (hlS : ¬ S l) (hl : w.heap[l]? = some (loopAt 58 (tm58 v0 bL bT bF bX v6 v7 v8 v9 undef) #[10] rf58.1 rf58.2 r)) (hN : y.1 N) (hNl : N ≠ l) (hA : RdA w (some ⟨N, 0, none⟩) xs) (h1 : 1 ≤ xs.length) (hn : xs.length ≤ 1048577) (hfx : Fx w)
    (hrows : y.2 = if p xs then xs :: rest else rest)
    (hc : ∀ y' w', Gy ty Wg S l y w y' w' → y'.2 = rest → w'.heap[l]? = some (loopAt 58 (tm58 v0 bL bT bF bX v6 v7 v8 v9 undef) #[10] rf58.1 rf58.2 r) → TW Try.prog ty Wg C n LW RwI S c k y' (G (fr.finish (.bool true)) cs) w') :
    TW Try.prog ty Wg C n LW RwI S c k y (G (Frame.round l 58 (tm58 v0 bL bT bF bX v6 v7 v8 v9 (.slice (some ⟨N, 0, none⟩) xs.length nc)) rf58.1 rf58.2 .normal) (fr :: cs)) w := by
  have hT := clo_w (P := Try.prog) (ty := ty) (Wg := Wg) (C := C) (n := n) (LW := LW) (Rw := RwI) (S := S) (c := c) (k := k)
  have hTw := hT
  obtain ⟨b8, hb8⟩ : ∃ b8 : Frame, b8 = ({ base 58 with roundOf := some l } : Frame) := ⟨_, rfl⟩
  have hro : b8.roundOf = some l := by rw [hb8]
  have hkn : b8.kind = .normal := by rw [hb8]; rfl
  have hk : b8.kind ≠ .early := by rw [hkn]; simp
  have hfn : b8.fn = 58 := by rw [hb8]; rfl
  have e0 : Frame.round l 58 (tm58 v0 bL bT bF bX v6 v7 v8 v9 (.slice (some ⟨N, 0, none⟩) xs.length nc)) rf58.1 rf58.2 .normal = b8.atR ⟨tm58 v0 bL bT bF bX v6 v7 v8 v9 (.slice (some ⟨N, 0, none⟩) xs.length nc), []⟩ [.code rf58.1, .beginRound, .code rf58.2] := by rw [hb8]; rfl
  rw [e0]
  clear e0 hb8
  have hS : Sees y S (some ⟨N, 0, none⟩) := fun ad e => by cases e; exact .inl hN
  generalize hTT : TW Try.prog ty Wg C n LW RwI S c k = T at hT hc ⊢
  generalize hlo : loopAt 58 (tm58 v0 bL bT bF bX v6 v7 v8 v9 undef) #[10] rf58.1 rf58.2 r = LO at hl hc
  have hlo' : LO = loopAt 58 (tm58 v0 bL bT bF bX v6 v7 v8 v9 undef) #[10] rf58.1 rf58.2 r := hlo.symm
  have hbusy : ∀ w₁ : World, ∃ lp : Loop, loopBusy 58 (tm58 v0 bL bT bF bX v6 v7 v8 v9 undef) #[10] rf58.1 rf58.2 r = .loop lp := fun _ => ⟨_, rfl⟩
  have t_end := fun (y : Gh) (w : World) (a : Act) (hm : y.1 l) (hl : w.heap[l]? = some (loopBusy 58 (tm58 v0 bL bT bF bX v6 v7 v8 v9 undef) #[10] rf58.1 rf58.2 r)) => t_endRound (T := T) (y := y) (w := w) (a := a) (cs := cs) (c := fr) hT hro hkn hm hl
  have t_beg := fun (a : Act) (k : List Item) (w : World) (hl : w.heap[l]? = some LO) => t_begin (T := T) (y := y) (w := w) (a := a) (k := k) (cs := fr :: cs) hT hro hk hm (hl.trans (congrArg some hlo'))
  generalize hbo : loopBusy 58 (tm58 v0 bL bT bF bX v6 v7 v8 v9 undef) #[10] rf58.1 rf58.2 r = BO at t_end t_beg
  obtain ⟨lpb, hlpb⟩ : ∃ lp : Loop, BO = .loop lp := by rw [← hbo]; exact ⟨_, rfl⟩
  obtain ⟨lpa, hlpa⟩ : ∃ lp : Loop, LO = .loop lp := by rw [← hlo]; exact ⟨_, rfl⟩
  rw [hlo] at t_end t_beg
  clear hbusy
  simp only [rf58, tm58, Try.f58]
  have hF : Gy ty Wg S l y w y w ∧ w.heap[l]? = some LO ∧ Fx w ∧ RdA w (some ⟨N, 0, none⟩) xs := ⟨Gy.refl hB, hl, hfx, hA⟩
  refine t_region hT [0] rfl ?_
  refine t_op hT rfl (by rfl) (by first | decide | assumption) (by first | rfl | (rw [hro]; rfl)) (fun _ hR K hK => ?_)
  replace hF := And.intro (hF.1.rely hR) (And.intro ((hR.keep l (.inl hm)).trans hF.2.1) (And.intro (A.fx hR hF.2.2.1) (rdA_rely hS hR hF.2.2.2)))
  clear hR
  go_simp
  try (unfold stored; go_simp)
  try go_ints
  refine hK _ _ y (by rw [listed_nil (by simp [go_sem, *])]; exact hT.idle _ _) ?_
  clear hK K
  try walk_nrm
  repeat (first | refine t_seq hT ?_ | refine t_block hT ?_ | refine t_skip hT ?_ | refine t_inBlock hT ?_ | refine t_rend hT ?_ | refine t_exit hT rfl ?_)
  refine t_beg _ _ _ hF.2.1 (fun w₁ hR hl1 => ?_)
  replace hF : Gy ty Wg S l y w y (setO w₁ l BO) ∧ (setO w₁ l BO).heap[l]? = some BO ∧ Fx (setO w₁ l BO) ∧ RdA (setO w₁ l BO) (some ⟨N, 0, none⟩) xs := by
    have g1 := hF.1.rely hR
    refine ⟨g1.trans (Gy.setO g1.bd (hl1.trans (congrArg some hlpa))), setO_at (g1.bd l (.inl hm)), ?_, ?_⟩
    · exact A.rely w₁ _ (fun b hb => setO_ne fun e => hlS (by rw [← e]; exact hb)) (A.fx hR hF.2.2.1)
    · exact rdA_heap (fun ad e => by cases e; exact setO_ne hNl) (rdA_rely hS hR hF.2.2.2)
  clear hR hl1
  generalize setO w₁ l BO = W1 at *
  repeat (first | refine t_seq hT ?_ | refine t_block hT ?_ | refine t_skip hT ?_ | refine t_inBlock hT ?_ | refine t_rend hT ?_ | refine t_exit hT rfl ?_)
  refine t_region hT [0, 1, 2] rfl ?_
  refine t_op hT rfl (by rfl) (by first | decide | assumption) (by first | rfl | (rw [hro]; rfl)) (fun _ hR K hK => ?_)
  replace hF := And.intro (hF.1.rely hR) (And.intro ((hR.keep l (.inl hm)).trans hF.2.1) (And.intro (A.fx hR hF.2.2.1) (rdA_rely hS hR hF.2.2.2)))
  clear hR
  have hce := A.fits _ hF.2.2.1
  go_simp
  try (unfold stored; go_simp)
  try go_ints
  refine hK _ _ y (dg_reads ?_) ?_
  · co_evs (exact evm_read (.inr A.sx))
  clear hK K
  try walk_nrm
  clear hce
  refine t_op hT rfl (by rfl) (by first | decide | assumption) (by first | rfl | (rw [hro]; rfl)) (fun _ hR K hK => ?_)
  replace hF := And.intro (hF.1.rely hR) (And.intro ((hR.keep l (.inl hm)).trans hF.2.1) (And.intro (A.fx hR hF.2.2.1) (rdA_rely hS hR hF.2.2.2)))
  clear hR
  go_simp
  try (unfold stored; go_simp)
  try go_ints
  refine hK _ _ y (by rw [listed_nil (by simp [go_sem, *])]; exact hT.idle _ _) ?_
  clear hK K
  try walk_nrm
  obtain ⟨fnF, codeF, hfF, hnF, hbF⟩ := A.code
  have hF0 : ∀ b, y.1 b ∨ S b → b < w.heap.size := hB
  refine t_callv hT rfl (by rfl) hk (by rw [hro]; rfl) (fun w => (run_callv rfl rfl hfF hnF hbF w).1) (fun w => (run_callv rfl rfl hfF hnF hbF w).2) (by walk_nrm; rw [← hTT]; exact A.test _ _ _ _ xs hF.2.2.2 hS hn hF.1.bd hF.2.2.1) ?_
  rintro _ y1 w1 ⟨rfl, gw⟩
  have hml : y1.1 l := gw.sub _ hm
  have hS1 : Sees y1 S (some ⟨N, 0, none⟩) := fun ad e => by cases e; exact .inl (gw.sub _ hN)
  have hrows1 := gw.rows
  have hsub1 := gw.sub
  replace hF := And.intro (hF.1.trans (.of_gw gw)) (And.intro ((gw.rg.keep l (.inl hm)).trans hF.2.1) (And.intro (A.fx gw.rg hF.2.2.1) (rdA_rely hS gw.rg hF.2.2.2)))
  clear gw
  try walk_nrm
  repeat (first | refine t_seq hT ?_ | refine t_block hT ?_ | refine t_skip hT ?_ | refine t_inBlock hT ?_ | refine t_rend hT ?_ | refine t_exit hT rfl ?_)
  by_cases hp : p xs = true
  · have hrowsT : y.2 = xs :: rest := by rw [hrows, if_pos hp]
    rw [hp]
    refine t_cond hT (t := _) rfl ?_
    simp only [if_true, if_false, reduceIte, Bool.false_eq_true, *]
    refine t_drawL hT (by first | kernel_rfl | rfl) (L := [[0, 1, 2, 3], [1, 0, 2, 3], [1, 2, 0, 3]]) (by decide +kernel) (fun w₁ hR ll hll => ?_)
    replace hF := And.intro (hF.1.rely hR) (And.intro ((hR.keep l (.inl hml)).trans hF.2.1) (And.intro (A.fx hR hF.2.2.1) (rdA_rely hS1 hR hF.2.2.2)))
    clear hR
    have hR : RG ty Wg S y1 w₁ { w₁ with drawn := w₁.drawn + 1 } := ⟨fun _ _ => rfl, Nat.le_refl _, id⟩
    replace hF := And.intro (hF.1.rely hR) (And.intro ((hR.keep l (.inl hml)).trans hF.2.1) (And.intro (A.fx hR hF.2.2.1) (rdA_rely hS1 hR hF.2.2.2)))
    clear hR
    generalize ({ w₁ with drawn := w₁.drawn + 1 } : World) = W2 at *
    simp only [List.mem_cons, List.not_mem_nil, or_false] at hll
    rcases hll with rfl | rfl | rfl
    · skip
      refine t_op hT rfl (by rfl) (by first | decide | assumption) (by first | rfl | (rw [hro]; rfl)) (fun _ hR K hK => ?_)
      replace hF := And.intro (hF.1.rely hR) (And.intro ((hR.keep l (.inl hml)).trans hF.2.1) (And.intro (A.fx hR hF.2.2.1) (rdA_rely hS1 hR hF.2.2.2)))
      clear hR
      have hce := A.lane _ hF.2.2.1
      go_simp
      try (unfold stored; go_simp)
      try go_ints
      refine hK _ _ y1 (dg_reads ?_) ?_
      · co_evs (exact evm_read (.inr A.sl))
      clear hK K
      try walk_nrm
      clear hce
      refine t_op hT rfl (by rfl) (by first | decide | assumption) (by first | rfl | (rw [hro]; rfl)) (fun _ hR K hK => ?_)
      replace hF := And.intro (hF.1.rely hR) (And.intro ((hR.keep l (.inl hml)).trans hF.2.1) (And.intro (A.fx hR hF.2.2.1) (rdA_rely hS1 hR hF.2.2.2)))
      clear hR
      go_simp
      try (unfold stored; go_simp)
      try go_ints
      refine hK _ _ y1 (by rw [listed_nil (by simp [go_sem, *])]; exact hT.idle _ _) ?_
      clear hK K
      try walk_nrm
      refine t_call hT rfl (by rfl) (by first | decide | assumption) (by first | rfl | (rw [hro]; rfl)) rfl Try.func61 (by rfl) rfl (by walk_nrm; exact clone_g hT _ _ xs hF.2.2.2 hS1 hn h1 hF.1.bd) ?_
      rintro _ y2 w2 ⟨r2, c2, rfl, ho2, hm2, hge, gw⟩
      have hfresh : ∀ b, y1.1 b ∨ S b → b ≠ r2 := fun b hb e => by have := hF.1.bd b hb; omega
      replace hF := And.intro (hF.1.trans (.of_gw gw)) (And.intro ((gw.rg.keep l (.inl hml)).trans hF.2.1) (And.intro (A.fx gw.rg hF.2.2.1) ho2))
      have hml2 := gw.sub _ hml
      have hrows2 := gw.rows
      have hsub2 := gw.sub
      clear gw ho2 hge
      try walk_nrm
      obtain ⟨M2, L2⟩ := y2
      have hL2 : L2 = xs :: rest := hrows2.trans (hrows1.trans hrowsT)
      subst hL2
      have hlr : l ≠ r2 := hfresh l (.inl hml)
      have t_snd := t_end (fun b => M2 b ∧ b ≠ r2, rest)
      subst hTT
      refine t_send (xs := xs) (r := r2) (v := .slice (some ⟨r2, 0, none⟩) xs.length c2) (z' := .tuple #[]) rfl (by rfl) hk (by rw [hro]; rfl) (fun w => ?_) (fun w => ?_) hm2 (fun w₁ hR => rwI_of (hF.2.2.2.heap (hR.keep r2 (.inl hm2)))) (fun w₁ hR => ?_)
      · simp [go_sem, scase]
      · simp [go_sem]
      replace hF := And.intro (gy_drop (L' := rest) (hF.1.rely hR) (fun b hb => hfresh b (.inl (hsub1 b hb)))) ((hR.keep l (.inl hml2)).trans hF.2.1)
      refine t_rend hTw ?_
      refine t_inBlock hTw ?_
      refine t_snd _ _ ⟨hml2, hlr⟩ hF.2 (fun w₂ hR2 hl2 => ?_)
      exact hc _ _ ((hF.1.rely hR2).trans (Gy.setO (hF.1.rely hR2).bd (hl2.trans (congrArg some hlpb)))) rfl (setO_at ((hF.1.rely hR2).bd l (.inl ⟨hml2, hlr⟩)))
    · skip
      refine t_op hT rfl (by rfl) (by first | decide | assumption) (by first | rfl | (rw [hro]; rfl)) (fun _ hR K hK => ?_)
      replace hF := And.intro (hF.1.rely hR) (And.intro ((hR.keep l (.inl hml)).trans hF.2.1) (And.intro (A.fx hR hF.2.2.1) (rdA_rely hS1 hR hF.2.2.2)))
      clear hR
      go_simp
      try (unfold stored; go_simp)
      try go_ints
      refine hK _ _ y1 (by rw [listed_nil (by simp [go_sem, *])]; exact hT.idle _ _) ?_
      clear hK K
      try walk_nrm
      refine t_op hT rfl (by rfl) (by first | decide | assumption) (by first | rfl | (rw [hro]; rfl)) (fun _ hR K hK => ?_)
      replace hF := And.intro (hF.1.rely hR) (And.intro ((hR.keep l (.inl hml)).trans hF.2.1) (And.intro (A.fx hR hF.2.2.1) (rdA_rely hS1 hR hF.2.2.2)))
      clear hR
      have hce := A.lane _ hF.2.2.1
      go_simp
      try (unfold stored; go_simp)
      try go_ints
      refine hK _ _ y1 (dg_reads ?_) ?_
      · co_evs (exact evm_read (.inr A.sl))
      clear hK K
      try walk_nrm
      clear hce
      refine t_call hT rfl (by rfl) (by first | decide | assumption) (by first | rfl | (rw [hro]; rfl)) rfl Try.func61 (by rfl) rfl (by walk_nrm; exact clone_g hT _ _ xs hF.2.2.2 hS1 hn h1 hF.1.bd) ?_
      rintro _ y2 w2 ⟨r2, c2, rfl, ho2, hm2, hge, gw⟩
      have hfresh : ∀ b, y1.1 b ∨ S b → b ≠ r2 := fun b hb e => by have := hF.1.bd b hb; omega
      replace hF := And.intro (hF.1.trans (.of_gw gw)) (And.intro ((gw.rg.keep l (.inl hml)).trans hF.2.1) (And.intro (A.fx gw.rg hF.2.2.1) ho2))
      have hml2 := gw.sub _ hml
      have hrows2 := gw.rows
      have hsub2 := gw.sub
      clear gw ho2 hge
      try walk_nrm
      obtain ⟨M2, L2⟩ := y2
      have hL2 : L2 = xs :: rest := hrows2.trans (hrows1.trans hrowsT)
      subst hL2
      have hlr : l ≠ r2 := hfresh l (.inl hml)
      have t_snd := t_end (fun b => M2 b ∧ b ≠ r2, rest)
      subst hTT
      refine t_send (xs := xs) (r := r2) (v := .slice (some ⟨r2, 0, none⟩) xs.length c2) (z' := .tuple #[]) rfl (by rfl) hk (by rw [hro]; rfl) (fun w => ?_) (fun w => ?_) hm2 (fun w₁ hR => rwI_of (hF.2.2.2.heap (hR.keep r2 (.inl hm2)))) (fun w₁ hR => ?_)
      · simp [go_sem, scase]
      · simp [go_sem]
      replace hF := And.intro (gy_drop (L' := rest) (hF.1.rely hR) (fun b hb => hfresh b (.inl (hsub1 b hb)))) ((hR.keep l (.inl hml2)).trans hF.2.1)
      refine t_rend hTw ?_
      refine t_inBlock hTw ?_
      refine t_snd _ _ ⟨hml2, hlr⟩ hF.2 (fun w₂ hR2 hl2 => ?_)
      exact hc _ _ ((hF.1.rely hR2).trans (Gy.setO (hF.1.rely hR2).bd (hl2.trans (congrArg some hlpb)))) rfl (setO_at ((hF.1.rely hR2).bd l (.inl ⟨hml2, hlr⟩)))
    · skip
      refine t_op hT rfl (by rfl) (by first | decide | assumption) (by first | rfl | (rw [hro]; rfl)) (fun _ hR K hK => ?_)
      replace hF := And.intro (hF.1.rely hR) (And.intro ((hR.keep l (.inl hml)).trans hF.2.1) (And.intro (A.fx hR hF.2.2.1) (rdA_rely hS1 hR hF.2.2.2)))
      clear hR
      go_simp
      try (unfold stored; go_simp)
      try go_ints
      refine hK _ _ y1 (by rw [listed_nil (by simp [go_sem, *])]; exact hT.idle _ _) ?_
      clear hK K
      try walk_nrm
      refine t_call hT rfl (by rfl) (by first | decide | assumption) (by first | rfl | (rw [hro]; rfl)) rfl Try.func61 (by rfl) rfl (by walk_nrm; exact clone_g hT _ _ xs hF.2.2.2 hS1 hn h1 hF.1.bd) ?_
      rintro _ y2 w2 ⟨r2, c2, rfl, ho2, hm2, hge, gw⟩
      have hfresh : ∀ b, y1.1 b ∨ S b → b ≠ r2 := fun b hb e => by have := hF.1.bd b hb; omega
      replace hF := And.intro (hF.1.trans (.of_gw gw)) (And.intro ((gw.rg.keep l (.inl hml)).trans hF.2.1) (And.intro (A.fx gw.rg hF.2.2.1) ho2))
      have hml2 := gw.sub _ hml
      have hrows2 := gw.rows
      have hsub2 := gw.sub
      clear gw ho2 hge
      try walk_nrm
      refine t_op hT rfl (by rfl) (by first | decide | assumption) (by first | rfl | (rw [hro]; rfl)) (fun _ hR K hK => ?_)
      replace hF := And.intro (hF.1.rely hR) (And.intro ((hR.keep l (.inl hml2)).trans hF.2.1) (And.intro (A.fx hR hF.2.2.1) (hF.2.2.2.heap (hR.keep r2 (.inl hm2)))))
      clear hR
      have hce := A.lane _ hF.2.2.1
      go_simp
      try (unfold stored; go_simp)
      try go_ints
      refine hK _ _ y2 (dg_reads ?_) ?_
      · co_evs (exact evm_read (.inr A.sl))
      clear hK K
      try walk_nrm
      clear hce
      obtain ⟨M2, L2⟩ := y2
      have hL2 : L2 = xs :: rest := hrows2.trans (hrows1.trans hrowsT)
      subst hL2
      have hlr : l ≠ r2 := hfresh l (.inl hml)
      have t_snd := t_end (fun b => M2 b ∧ b ≠ r2, rest)
      subst hTT
      refine t_send (xs := xs) (r := r2) (v := .slice (some ⟨r2, 0, none⟩) xs.length c2) (z' := .tuple #[]) rfl (by rfl) hk (by rw [hro]; rfl) (fun w => ?_) (fun w => ?_) hm2 (fun w₁ hR => rwI_of (hF.2.2.2.heap (hR.keep r2 (.inl hm2)))) (fun w₁ hR => ?_)
      · simp [go_sem, scase]
      · simp [go_sem]
      replace hF := And.intro (gy_drop (L' := rest) (hF.1.rely hR) (fun b hb => hfresh b (.inl (hsub1 b hb)))) ((hR.keep l (.inl hml2)).trans hF.2.1)
      refine t_rend hTw ?_
      refine t_inBlock hTw ?_
      refine t_snd _ _ ⟨hml2, hlr⟩ hF.2 (fun w₂ hR2 hl2 => ?_)
      exact hc _ _ ((hF.1.rely hR2).trans (Gy.setO (hF.1.rely hR2).bd (hl2.trans (congrArg some hlpb)))) rfl (setO_at ((hF.1.rely hR2).bd l (.inl ⟨hml2, hlr⟩)))
  · have hrowsF : y.2 = rest := by rw [hrows, if_neg hp]
    rw [show p xs = false by simpa using hp]
    refine t_cond hT (t := _) rfl ?_
    simp only [if_true, if_false, reduceIte, Bool.false_eq_true, *]
    refine t_skip hT ?_
    refine t_inBlock hT ?_
    refine t_end _ _ _ hml hF.2.1 (fun w₂ hR2 hl2 => ?_)
    exact hc _ _ ((hF.1.rely hR2).trans (Gy.setO (hF.1.rely hR2).bd (hl2.trans (congrArg some hlpb)))) (hrows1.trans hrowsF) (setO_at ((hF.1.rely hR2).bd l (.inl hml)))
end

end Go.Proofs.Ytkbfcaaihellfaa
