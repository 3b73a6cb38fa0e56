/- Steps on the way to the law; each part says what it proves. -/
import Derived.Test.YtkbfcaaihellfaaV15
import Derived.Test.YtkbfcaaihellfaaV4

set_option linter.unusedSimpArgs false

/- Walks in company: mapsFrom; the rules of a range over a function in a family; a worker's family; a worker's send. -/
namespace Go.Proofs.Ytkbfcaaihellfaa
open Go.Conc Go.ConcN Go.RowKit
set_option linter.unusedVariables false
set_option linter.unusedSectionVars false

section
variable [Go.ConcR.Payload] {main : Bool} {ty : TypeId} {Wg : Nat} {S : Nat → Prop} {T : Gh → Goroutine → World → Prop} {y y0 : Gh} {w w0 w1 : World}
theorem gw_new (o : Obj) (h : Gw ty Wg S y0 w0 y w) : ∃ y', DG main Wg S y w (w.alloc o) #[] y' ∧ Gw ty Wg S y0 w0 y' (w.alloc o) ∧ Gw ty Wg S y w y' (w.alloc o) ∧ y'.1 w.heap.size ∧ (w.alloc o).heap[w.heap.size]? = some o ∧ ¬ (y.1 w.heap.size ∨ S w.heap.size) :=
  ⟨_, dg_alloc o, h.trans (gw_alloc h.bd o), gw_alloc h.bd o, .inr ⟨Nat.le_refl _, by rw [alloc_size]; omega⟩, Array.getElem?_push_size, fun e => Nat.lt_irrefl _ (h.bd _ e)⟩
theorem cell_of_heap {b k : Nat} {cs : Array Value} {t : TypeId} {f : Nat × Nat} {v : Value} (h : w.heap[b]? = some (.cells cs t f)) (hv : cs[k]? = some v) : w.cell? ⟨b, k, none⟩ = some v := by
  simp [World.cell?, h, hv]
theorem run_box (v : Value) (hv : v.oneCell' = true) (w : World) (t : TypeId) : (Instr.box t v).run Try.prog w = .ok (.pointer (some ⟨w.heap.size, 0, none⟩)) (w.alloc (.cells #[v] t)) := by
  cases v <;> simp_all [Instr.box, go_sem, Value.oneCell']
set_option maxHeartbeats 1000000 in
theorem mapsFrom_g (hT : Clo Try.prog main (RG ty Wg S) (DG main Wg S) T) (n f : Int) (hB : Bd S y w) :
    CallsT Try.prog T 60 #[.int .i64 n, .int .i64 f] y w fun v y' w' => ∃ b2 b3, v = .func (.func 84) #[] #[.pointer (some ⟨b2, 0, none⟩), .pointer (some ⟨b3, 0, none⟩)] ∧ y'.1 b2 ∧ y'.1 b3 ∧ w'.heap[b2]? = some (.cells #[.int .i64 n] 3) ∧ w'.heap[b3]? = some (.cells #[.int .i64 f] 3) ∧ Gw ty Wg S y w y' w' := by
  refine callsT_of Try.func60 rfl fun fr cs hc => ?_
  simp only [Try.ntmps60, List.size_toArray, List.length_cons, List.length_nil, Nat.reduceAdd, Nat.reduceSub, Array.replicate_succ, Array.replicate_zero, List.push_toArray, List.append_toArray, List.nil_append, List.cons_append]
  have hF : Gw ty Wg S y w y w := Gw.refl hB
  repeat (first | refine t_seq hT ?_ | refine t_block hT ?_ | refine t_skip hT ?_ | refine t_inBlock hT ?_ | refine t_rend hT ?_ | refine t_exit hT rfl ?_)
  refine t_region hT [0, 1, 2] rfl ?_
  refine t_op hT rfl (by rfl) (by first | decide | assumption) (by first | rfl | (rw [hro]; rfl)) (fun w₁ hR K hK => ?_)
  replace hF := hF.rely hR
  clear hR
  go_simp
  obtain ⟨y1, hdg, gw, gw1, hm1, hh1, hn1⟩ := gw_new (main := main) (.cells #[.int .i64 n] 3) hF
  refine hK _ _ y1 (by rw [listed_nil (by simp [go_sem])]; exact hdg) ?_
  clear hK K hdg gw1
  try walk_nrm
  generalize w₁.heap.size = b2 at *
  generalize w₁.alloc (.cells #[.int .i64 n] 3) = W1 at *
  replace hF := And.intro gw hh1
  clear gw hh1
  refine t_op hT rfl (by rfl) (by first | decide | assumption) (by first | rfl | (rw [hro]; rfl)) (fun w₁ hR K hK => ?_)
  replace hF := And.intro (hF.1.rely hR) ((hR.keep b2 (.inl hm1)).trans hF.2)
  clear hR
  go_simp
  obtain ⟨y2, hdg, gw, gw1, hm2, hh2, hn2⟩ := gw_new (main := main) (.cells #[.int .i64 f] 3) hF.1
  refine hK _ _ y2 (by rw [listed_nil (by simp [go_sem])]; exact hdg) ?_
  replace hF := And.intro gw (And.intro ((gw1.rg.keep b2 (.inl hm1)).trans hF.2) hh2)
  replace hm1 := gw1.sub _ hm1
  clear hK K hdg gw gw1 hh2
  try walk_nrm
  generalize w₁.heap.size = b3 at *
  generalize w₁.alloc (.cells #[.int .i64 f] 3) = W2 at *
  refine t_op hT rfl (by rfl) (by first | decide | assumption) (by first | rfl | (rw [hro]; rfl)) (fun _ hR K hK => ?_)
  replace hF := And.intro (hF.1.rely hR) (And.intro ((hR.keep b2 (.inl hm1)).trans hF.2.1) ((hR.keep b3 (.inl hm2)).trans hF.2.2))
  clear hR
  go_simp
  try (unfold stored; go_simp)
  try go_ints
  refine hK _ _ y2 (by rw [listed_nil (by simp [go_sem, *])]; exact hT.idle _ _) ?_
  clear hK K
  try walk_nrm
  repeat (first | refine t_seq hT ?_ | refine t_block hT ?_ | refine t_skip hT ?_ | refine t_inBlock hT ?_ | refine t_rend hT ?_ | refine t_exit hT rfl ?_)
  refine t_region hT [0, 1] rfl ?_
  refine t_op hT rfl (by rfl) (by first | decide | assumption) (by first | rfl | (rw [hro]; rfl)) (fun w₁ hR K hK => ?_)
  replace hF := And.intro (hF.1.rely hR) (And.intro ((hR.keep b2 (.inl hm1)).trans hF.2.1) ((hR.keep b3 (.inl hm2)).trans hF.2.2))
  clear hR
  go_simp
  refine hK _ _ y2 (by rw [listed_nil (by simp [go_sem, Instr.makeFunc])]; exact hT.idle _ _) ?_
  clear hK K
  try walk_nrm
  refine t_op hT rfl (by rfl) (by first | decide | assumption) (by first | rfl | (rw [hro]; rfl)) (fun _ hR K hK => ?_)
  replace hF := And.intro (hF.1.rely hR) (And.intro ((hR.keep b2 (.inl hm1)).trans hF.2.1) ((hR.keep b3 (.inl hm2)).trans hF.2.2))
  clear hR
  go_simp
  try (unfold stored; go_simp)
  try go_ints
  refine hK _ _ y2 (by rw [listed_nil (by simp [go_sem, *])]; exact hT.idle _ _) ?_
  clear hK K
  try walk_nrm
  repeat (first | refine t_seq hT ?_ | refine t_block hT ?_ | refine t_skip hT ?_ | refine t_inBlock hT ?_ | refine t_rend hT ?_ | refine t_exit hT rfl ?_)
  refine t_ret hT rfl rfl rfl Try.func60 (resultsC_tmp (by rfl) _) (hc _ _ _ ?_)
  exact ⟨b2, b3, by simp, hm1, hm2, hF.2.1, hF.2.2, hF.1⟩

/-- .. or its object l has turned -/
structure Gy (ty : TypeId) (Wg : Nat) (S : Nat → Prop) (l : Nat) (y : Gh) (w : World) (y' : Gh) (w' : World) : Prop where
  keep : ∀ b, y.1 b ∨ S b → b ≠ l → w'.heap[b]? = w.heap[b]?
  size : w.heap.size ≤ w'.heap.size
  live : WgLive ty Wg w → WgLive ty Wg w'
  sub : ∀ b, y.1 b → y'.1 b
  bd : Bd S y' w'
section
variable {l : Nat} {y1 y2 : Gh} {w2 : World}
theorem Gy.refl (h : Bd S y w) : Gy ty Wg S l y w y w := ⟨fun _ _ _ => rfl, Nat.le_refl _, id, fun _ h => h, h⟩
theorem Gy.trans (g : Gy ty Wg S l y w y1 w1) (k : Gy ty Wg S l y1 w1 y2 w2) : Gy ty Wg S l y w y2 w2 :=
  ⟨fun b hb hl => (k.keep b (hb.imp (g.sub b) id) hl).trans (g.keep b hb hl), Nat.le_trans g.size k.size, k.live ∘ g.live, fun b h => k.sub b (g.sub b h), k.bd⟩
theorem Gy.of_gw (g : Gw ty Wg S y w y1 w1) : Gy ty Wg S l y w y1 w1 := ⟨fun b hb _ => g.rg.keep b hb, g.rg.size, g.rg.live, g.sub, g.bd⟩
theorem Gy.rely (g : Gy ty Wg S l y w y1 w1) (r : RG ty Wg S y1 w1 w2) : Gy ty Wg S l y w y1 w2 := g.trans (.of_gw (Gw.of_rg g.bd r))
theorem live_setO {lp : Loop} {o : Obj} (hl : w.heap[l]? = some (.loop lp)) (h : WgLive ty Wg w) : WgLive ty Wg (setO w l o) := by
  have hne : Wg ≠ l := fun e => by
    obtain ⟨st, sm, h1⟩ := h
    subst e
    have h2 : w.heap[Wg]? = _ := h1
    rw [hl] at h2
    cases h2
  exact live_heap (setO_ne hne) h
theorem Gy.setO {lp : Loop} {o : Obj} (hB : Bd S y w) (hl : w.heap[l]? = some (.loop lp)) : Gy ty Wg S l y w y (setO w l o) :=
  ⟨fun b _ hb => setO_ne hb, by rw [setO_size]; exact Nat.le_refl _, live_setO hl, fun _ h => h, fun b hb => by rw [setO_size]; exact hB b hb⟩
theorem dg_setO {o : Obj} {es : Array Event} (hm : y.1 l) (he : EvO l es) : DG main Wg S y w (setO w l o) es y :=
  ⟨⟨fun b hb _ => setO_ne fun e => hb (by rw [e]; exact hm), by rw [setO_size]; exact Nat.le_refl _, rfl, rfl, rfl, fun e h => .inl (.inr (.inl ⟨l, (he e h).1, (he e h).2, hm⟩))⟩, by rw [more_same setO_size]⟩
end

section
variable {P : Program} {b : Frame} {a : Act} {k : List Item} {cs : List Frame} {ops : Array Oper} {l r f : Nat} {tmps : Array Value} {params : Array Tmp} {assign body : Code} {y1 : Gh}
theorem t_begin (hT : Clo P main (RG ty Wg S) (DG main Wg S) T) (hro : b.roundOf = some l) (hk : b.kind ≠ .early) (hm : y.1 l) (hl : w.heap[l]? = some (loopAt f tmps params assign body r))
    (h : ∀ w₁, RG ty Wg S y w w₁ → w₁.heap[l]? = some (loopAt f tmps params assign body r) → T y (G (b.atR a k) cs) (setO w₁ l (loopBusy f tmps params assign body r))) : T y (G (b.atR a (.beginRound :: k)) cs) w :=
  hT.step rfl fun w₁ hr => by
    have hl' := (hr.keep l (.inl hm)).trans hl
    obtain ⟨es, he, hs⟩ := sG_begin (P := P) (main := main) (b := b) (a := a) (k := k) (cs := cs) hro hk hl'
    exact ⟨_, _, es, y, hs, dg_setO hm he, h w₁ hr hl'⟩
theorem t_endRound (hT : Clo P main (RG ty Wg S) (DG main Wg S) T) {c : Frame} (hro : b.roundOf = some l) (hk : b.kind = .normal) (hm : y.1 l) (hl : w.heap[l]? = some (loopBusy f tmps params assign body r))
    (h : ∀ w₁, RG ty Wg S y w w₁ → w₁.heap[l]? = some (loopBusy f tmps params assign body r) → T y (G (c.finish (.bool true)) cs) (setO w₁ l (loopAt f tmps params assign body r))) : T y (G (b.atR a []) (c :: cs)) w :=
  hT.step rfl fun w₁ hr => by
    have hl' := (hr.keep l (.inl hm)).trans hl
    obtain ⟨es, he, hs⟩ := sG_endRound (P := P) (main := main) (b := b) (a := a) (c := c) (cs := cs) hro hk hl'
    exact ⟨_, _, es, y, hs, dg_setO hm he, h w₁ hr hl'⟩
theorem t_endRange (hT : Clo P main (RG ty Wg S) (DG main Wg S) T) (hm : y.1 l) (hl : w.heap[l]? = some (loopAt f tmps params assign body r))
    (h : ∀ w₁, RG ty Wg S y w w₁ → w₁.heap[l]? = some (loopAt f tmps params assign body r) → T y (G (b.atR a k) cs) (setO w₁ l (loopOver f tmps params assign body r))) : T y (G (b.atR a (.endRangeFunc l :: k)) cs) w :=
  hT.step rfl fun w₁ hr => by
    have hl' := (hr.keep l (.inl hm)).trans hl
    obtain ⟨es, he, hs⟩ := sG_endRange (P := P) (main := main) (b := b) (a := a) (k := k) (cs := cs) hl'
    exact ⟨_, _, es, y, hs, dg_setO hm he, h w₁ hr hl'⟩
theorem t_take (hT : Clo P main (RG ty Wg S) (DG main Wg S) T) {todo : List Item} {ds : List Deferred} (hro : b.roundOf = none) (hd : a.defers = ⟨.collected r, #[]⟩ :: ds) (hm : y.1 r) (hl : w.heap[r]? = some (.deferred (some [])))
    (h : ∀ w₁, RG ty Wg S y w w₁ → w₁.heap[r]? = some (.deferred (some [])) → T y (G { b.atR ⟨a.tmps, ds⟩ todo with mode := .returning } cs) (setO w₁ r (.deferred none))) : T y (G { b.atR a todo with mode := .returning } cs) w :=
  hT.step rfl fun w₁ hr => by
    have hl' := (hr.keep r (.inl hm)).trans hl
    obtain ⟨es, he, hs⟩ := sG_take (P := P) (main := main) (b := b) (a := a) (cs := cs) (todo := todo) hro hd hl'
    exact ⟨_, _, es, y, hs, dg_setO hm he, h w₁ hr hl'⟩
theorem t_yield (hT : Clo P main (RG ty Wg S) (DG main Wg S) T) {i : Nat} {rest : List Nat} {o : Oper} {x z : Operand} {ats : Array TypeId} {p : Tmp} (ho : ops[i]? = some o) (hw : Region.wanted o (yielded ops a.tmps) = true) (hk : b.kind ≠ .early) (hs : o.semAt b.roundOf a.eval = execOp a.eval o)
    (hop : o.op = .call { callee := .value x, args := #[z], argTypes := ats }) (hx : a.eval x = .func (.yield l) #[] #[]) (hm : y.1 l) (hl : w.heap[l]? = some (loopAt f tmps #[p] assign body r))
    (h : ∀ w₁, RG ty Wg S y w w₁ → T y (G (Frame.round l f (tmps.setIfInBounds p (a.eval z)) assign body .normal) (b.atR a (.inRegion ops (i :: rest) :: k) :: cs)) w₁) : T y (G (b.atR a (.inRegion ops (i :: rest) :: k)) cs) w :=
  hT.step rfl fun w₁ hr => by
    have hl' := (hr.keep l (.inl hm)).trans hl
    obtain ⟨h1, h2⟩ := run_yield (P := P) (a := a) hop hx hl'
    refine ⟨_, w₁, _, y, sG_round ho hw hk hs h1, dg_reads fun e he => ?_, h w₁ hr⟩
    have := mem_listed he
    rw [h2] at this
    simp at this
    subst this
    exact .inr (.inl ⟨l, rfl, rfl, hm⟩)
theorem t_rangeFunc (hT : Clo P main (RG ty Wg S) (DG main Wg S) T) {x : Operand} {code : Code} {fid : FuncId} {fn : Func} {cap : Array Value} (hro : b.roundOf = none) (hk : b.kind ≠ .early) (hf : a.eval x = .func (.func fid) #[] cap)
    (hfn : P.funcs[fid]? = some fn) (hname : (fn.name == "runtime.NumGoroutine") = false) (hb : fn.body = some code) (hB : Bd S y w)
    (h : ∀ w₁ y' w' r l, RG ty Wg S y w w₁ → Gw ty Wg S y w₁ y' w' → y'.1 r → y'.1 l → r ≠ l → w'.heap[r]? = some (.deferred (some [])) → w'.heap[l]? = some (loopAt b.fn a.tmps params assign body r) → (∀ b, y.1 b ∨ S b → b ≠ r ∧ b ≠ l) →
      T y' (G (Frame.enter P fid (#[.func (.yield l) #[] #[]] ++ cap) .normal) (b.atR ⟨a.tmps, ⟨.collected r, #[]⟩ :: a.defers⟩ (.inRangeFunc l :: k) :: cs)) w') : T y (G (b.atR a (.code (.rangeFunc x params assign body) :: k)) cs) w :=
  hT.step rfl fun w₁ hr => by
    have g0 := Gw.refl (ty := ty) (Wg := Wg) (hB.rely hr)
    obtain ⟨y1, d1, g1, _, m1, h1, n1⟩ := gw_new (main := main) (.deferred (some [])) g0
    obtain ⟨y2, d2, g2, k2, m2, h2, n2⟩ := gw_new (main := main) (loopAt b.fn a.tmps params assign body w₁.heap.size) g1
    have es : (w₁.alloc (.deferred (some []))).heap.size = w₁.heap.size + 1 := alloc_size
    rw [es] at m2 h2 n2
    have hd : DG main Wg S y w₁ ((w₁.alloc (.deferred (some []))).alloc (loopAt b.fn a.tmps params assign body w₁.heap.size)) #[] y2 := by
      refine ⟨⟨fun b hb hlt => (alloc_get (by rw [es]; omega)).trans (alloc_get hlt), by rw [alloc_size, es]; omega, rfl, rfl, rfl, by simp⟩, ?_⟩
      rw [d2.2, d1.2]
      refine Prod.ext ?_ rfl
      funext b
      simp only [more, alloc_size]
      exact propext ⟨fun h => by rcases h with (h | h) | h; exact .inl h; exact .inr ⟨by omega, by omega⟩; exact .inr ⟨by omega, by omega⟩, fun h => by
        rcases h with h | h
        · exact .inl (.inl h)
        · by_cases e : b < w₁.heap.size + 1
          · exact .inl (.inr ⟨h.1, e⟩)
          · exact .inr ⟨by omega, h.2⟩⟩
    refine ⟨_, _, #[], y2, sG_rangeFunc hro hk hf hfn hname hb, hd, h w₁ y2 _ w₁.heap.size (w₁.heap.size + 1) hr g2 (k2.sub _ m1) m2 (by omega) ((alloc_get (by rw [es]; omega)).trans h1) h2 fun b hb => ?_⟩
    have := (hB.rely hr) b hb
    exact ⟨by omega, by omega⟩
end
end

/-! ### a worker's family -/
section
variable [Go.ConcR.Payload] {P : Program} {ty : TypeId} {Wg C n LW : Nat} {Rw : List Int → Nat → Obj → Value → Prop} {S : Nat → Prop} {c k : Nat}
def TW (P : Program) (ty : TypeId) (Wg C n LW : Nat) (Rw : List Int → Nat → Obj → Value → Prop) (S : Nat → Prop) (c k : Nat) (y : Gh) (g : Goroutine) (w : World) : Prop := WScr P ty Wg C n LW Rw S c k y.2 y.1 g w
theorem clo_way {main : Bool} {Stop : (Nat → Prop) → Goroutine → World → Prop} {M : Nat → Prop} {L : List (List Int)} {g : Goroutine} {w : World} (hs : g.status = .running)
    (h : ∀ w₁, RG ty Wg S (M, L) w w₁ → ∃ g' w' es y', stepG P main g w₁ = .go g' w' es ∧ DG main Wg S (M, L) w₁ w' es y' ∧ ∃ f, Way P main ty Wg S Stop f y'.1 g' w') : ∃ f, Way P main ty Wg S Stop f M g w :=
  Way.step hs fun w₁ r => by
    obtain ⟨g', w', es, y', h1, ⟨h2, rfl⟩, h3⟩ := h w₁ r
    exact ⟨g', w', es, h1, h2, h3⟩
theorem dg_draw {main : Bool} (y : Gh) (w : World) : DG main Wg S y w { w with drawn := w.drawn + 1 } #[] y := ⟨⟨fun _ _ _ => rfl, Nat.le_refl _, rfl, rfl, rfl, by simp⟩, Prod.ext (more_same (w' := { w with drawn := w.drawn + 1 }) rfl).symm rfl⟩
theorem clo_w : Clo P false (RG ty Wg S) (DG false Wg S) (TW P ty Wg C n LW Rw S c k) := by
  refine ⟨fun h r => WScr.rely P ty Wg C n LW Rw h r, fun {y g w} hs h => ?_, fun _ _ => dg_none, dg_draw⟩
  obtain ⟨M, L⟩ := y
  unfold TW at h ⊢
  cases L with
  | nil =>
    refine clo_way (L := []) hs fun w₁ r => ?_
    obtain ⟨g', w', es, y', h1, h2, h3⟩ := h w₁ r
    refine ⟨g', w', es, y', h1, h2, ?_⟩
    rw [h2.2] at h3 ⊢
    exact h3
  | cons xs L =>
    refine clo_way (L := xs :: L) hs fun w₁ r => ?_
    obtain ⟨g', w', es, y', h1, h2, h3⟩ := h w₁ r
    refine ⟨g', w', es, y', h1, h2, ?_⟩
    rw [h2.2] at h3 ⊢
    exact h3
/-- A SEND of a row of its own. -/
theorem t_send {b : Frame} {a : Act} {kk : List Item} {cs : List Frame} {ops : Array Oper} {i : Nat} {rest : List Nat} {o : Oper} {M : Nat → Prop} {L : List (List Int)} {w : World} {xs : List Int} {r : Nat} {v z' : Value}
    (ho : ops[i]? = some o) (hw : Region.wanted o (yielded ops a.tmps) = true) (hk : b.kind ≠ .early) (hs : o.semAt b.roundOf a.eval = execOp a.eval o)
    (hr : ∀ w, (execOp a.eval o).run P w = .ok (.comm #[scase c v z'] true .send) w) (he : ∀ w, (execOp a.eval o).events P w #[] = #[])
    (hM : M r) (hRw : ∀ w₁, RG ty Wg S (M, xs :: L) w w₁ → ∃ ob, w₁.heap[r]? = some ob ∧ Rw xs r ob v)
    (h : ∀ w₁, RG ty Wg S (M, xs :: L) w w₁ → TW P ty Wg C n LW Rw S c k (fun b => M b ∧ b ≠ r, L) (G (b.atR (a.put o.dst undef) (.inRegion ops rest :: kk)) cs) w₁) :
    TW P ty Wg C n LW Rw S c k (M, xs :: L) (G (b.atR a (.inRegion ops (i :: rest) :: kk)) cs) w := by
  refine ⟨.leaf, Way.stop fun w₁ hr₁ => ?_⟩
  obtain ⟨ob, h1, h2⟩ := hRw w₁ hr₁
  refine ⟨rfl, r, ob, v, hM, h1, h2, G (b.atR a (.inRegion ops (i :: rest) :: kk)) cs, z', fun d => ?_, ?_⟩
  · rw [sG_comm ho hw hk hs (hr _)]
    have : listed P b.fn a o (w₁.at d) = #[] := by unfold listed; rw [he]; exact seen_none P _
    rw [this]
  · have hfin : Go.Conc.served (G (b.atR a (.inRegion ops (i :: rest) :: kk)) cs) undef = G (b.atR (a.put o.dst undef) (.inRegion ops rest :: kk)) cs := by
      simp only [Go.Conc.served, G, Frame.finish_atR, ho]; rfl
    rw [hfin]
    exact h w₁ hr₁
end

end Go.Proofs.Ytkbfcaaihellfaa

/- Walks in company: one round of a worker's loop. -/
namespace Go.Proofs.Ytkbfcaaihellfaa
open Go.Conc Go.ConcN Go.RowKit
set_option linter.unusedVariables false
set_option linter.unusedSectionVars false

/-- a row's block and value -/
def RwI (xs : List Int) (r : Nat) (o : Obj) (v : Value) : Prop := ∃ c, v = .slice (some ⟨r, 0, none⟩) xs.length c ∧ ∀ w : World, w.heap[r]? = some o → Own 0 w v xs
theorem rwI_of {w : World} {xs : List Int} {r c : Nat} (h : Own 0 w (.slice (some ⟨r, 0, none⟩) xs.length c) xs) : ∃ o, w.heap[r]? = some o ∧ RwI xs r o (.slice (some ⟨r, 0, none⟩) xs.length c) := by
  have hh := h
  obtain ⟨h1, h2⟩ := hh
  rcases h2 with ⟨h2, _⟩ | ⟨g, cap, cur, h2, h3, h4, h5⟩
  · cases h2
  · have eg : g = r := by cases h2; rfl
    subst eg
    exact ⟨_, h4, c, rfl, fun w1 hw1 => h.heap (hw1.trans h4.symm)⟩

noncomputable def rf58 : Code × Code := match (Try.f58).body with
  | some (.seq _ (.seq _ (.seq _ (.block _ (.rangeFunc _ _ a b))))) => (a, b)
  | _ => (.skip, .skip)
/-- the frame of a worker's loop -/
def tm58 (v0 : Value) (bL bT bF bX : Nat) (v6 v7 v8 v9 v10 : Value) : Array Value := #[v0, .pointer (some ⟨bL, 0, none⟩), .pointer (some ⟨bT, 0, none⟩), .pointer (some ⟨bF, 0, none⟩), .pointer (some ⟨bX, 0, none⟩), undef, v6, v7, v8, v9, v10, undef, undef, undef, undef, undef, undef]

section
variable [Go.ConcR.Payload] {ty : TypeId} {Wg C n LW : Nat} {S : Nat → Prop} {c k : Nat} {y : Gh} {w : World}
theorem rdA_heap {w w1 : World} {A : Option Addr} {xs : List Int} (h : ∀ ad, A = some ad → w1.heap[ad.block]? = w.heap[ad.block]?) (hA : RdA w A xs) : RdA w1 A xs := fun k hk => by
  obtain ⟨ad, e, hc⟩ := hA k hk
  refine ⟨ad, e, ?_⟩
  have h1 := h ad e
  rw [← hc]
  simp [World.cell?, block_of_add, h1]
theorem gy_drop {l r : Nat} {M : Nat → Prop} {L L' : List (List Int)} {w1 : World} (g : Gy ty Wg S l y w (M, L) w1) (h : ∀ b, y.1 b → b ≠ r) : Gy ty Wg S l y w (fun b => M b ∧ b ≠ r, L') w1 :=
  ⟨g.keep, g.size, g.live, fun b hb => ⟨g.sub b hb, h b hb⟩, fun b hb => g.bd b (hb.imp (·.1) id)⟩
/-- WHAT STANDS AROUND A WORKER: the boxes that it reads; the test. -/
structure Around (ty : TypeId) (Wg C n LW : Nat) (S : Nat → Prop) (c k : Nat) (Fx : World → Prop) (bL bX fF : Nat) (cap : Array Value) (p : List Int → Bool) : Prop where
  rely : ∀ w w₁ : World, (∀ b, S b → w₁.heap[b]? = w.heap[b]?) → Fx w → Fx w₁
  lane : ∀ w, Fx w → w.cell? ⟨bL, 0, none⟩ = some (.chan (some c))
  sl : S bL
  fits : ∀ w, Fx w → w.cell? ⟨bX, 0, none⟩ = some (.func (.func fF) #[] cap)
  sx : S bX
  code : ∃ fn code, Try.prog.funcs[fF]? = some fn ∧ (fn.name == "runtime.NumGoroutine") = false ∧ fn.body = some code
  test : ∀ (y : Gh) (w : World) (ad : Addr) (cc : Nat) (xs : List Int), RdA w (some ad) xs → Sees y S (some ad) → xs.length ≤ 1048577 → Bd S y w → Fx w →
    CallsT Try.prog (TW Try.prog ty Wg C n LW RwI S c k) fF (#[.slice (some ad) xs.length cc] ++ cap) y w fun v y' w' => v = .bool (p xs) ∧ Gw ty Wg S y w y' w'
variable {Fx : World → Prop} {bL bX fF : Nat} {cap : Array Value} {p : List Int → Bool}
theorem Around.fx (A : Around ty Wg C n LW S c k Fx bL bX fF cap p) {w1 : World} (r : RG ty Wg S y w w1) (h : Fx w) : Fx w1 := A.rely w w1 (fun b hb => r.keep b (.inr hb)) h
theorem run_callv {a : Act} {o : Oper} {x z : Operand} {ats : Array TypeId} {fn : Func} {code : Code} (hop : o.op = .call { callee := .value x, args := #[z], argTypes := ats }) (hx : a.eval x = .func (.func fF) #[] cap)
    (hf : Try.prog.funcs[fF]? = some fn) (hname : (fn.name == "runtime.NumGoroutine") = false) (hb : fn.body = some code) (w : World) : (execOp a.eval o).run Try.prog w = .ok (.enter fF (#[a.eval z] ++ cap)) w ∧ (execOp a.eval o).events Try.prog w #[] = #[] := by
  have h1 : ¬ fn.name = "runtime.NumGoroutine" := by simpa using hname
  have h2 : ¬ fn.body = none := by rw [hb]; simp
  unfold execOp
  constructor <;> simp [hop, resolve, Deferred.ofValue, hx, invoke, callFunc, hf, h1, h2]

set_option maxHeartbeats 4000000 in
theorem round_g (A : Around ty Wg C n LW S c k Fx bL bX fF cap p) (v0 : Value) (bT bF : Nat) (v6 v7 v8 v9 : Value) (l r N nc : Nat) (xs : List Int) (rest : List (List Int)) (fr : Frame) (cs : List Frame)
    (hB : Bd S y w) (hm : y.1 l) (hlS : ¬ S l) (hl : w.heap[l]? = some (loopAt 58 (tm58 v0 bL bT bF bX v6 v7 v8 v9 undef) #[10] rf58.1 rf58.2 r)) (hN : y.1 N) (hNl : N ≠ l) (hA : RdA w (some ⟨N, 0, none⟩) xs) (h1 : 1 ≤ xs.length) (hn : xs.length ≤ 1048577) (hfx : Fx w)
    (hrows : y.2 = if p xs then xs :: rest else rest)
    (hc : ∀ y' w', Gy ty Wg S l y w y' w' → y'.2 = rest → w'.heap[l]? = some (loopAt 58 (tm58 v0 bL bT bF bX v6 v7 v8 v9 undef) #[10] rf58.1 rf58.2 r) → TW Try.prog ty Wg C n LW RwI S c k y' (G (fr.finish (.bool true)) cs) w') :
    TW Try.prog ty Wg C n LW RwI S c k y (G (Frame.round l 58 (tm58 v0 bL bT bF bX v6 v7 v8 v9 (.slice (some ⟨N, 0, none⟩) xs.length nc)) rf58.1 rf58.2 .normal) (fr :: cs)) w := by
  have hT := clo_w (P := Try.prog) (ty := ty) (Wg := Wg) (C := C) (n := n) (LW := LW) (Rw := RwI) (S := S) (c := c) (k := k)
  have hTw := hT
  obtain ⟨b8, hb8⟩ : ∃ b8 : Frame, b8 = ({ base 58 with roundOf := some l } : Frame) := ⟨_, rfl⟩
  have hro : b8.roundOf = some l := by rw [hb8]
  have hkn : b8.kind = .normal := by rw [hb8]; rfl
  have hk : b8.kind ≠ .early := by rw [hkn]; simp
  have hfn : b8.fn = 58 := by rw [hb8]; rfl
  have e0 : Frame.round l 58 (tm58 v0 bL bT bF bX v6 v7 v8 v9 (.slice (some ⟨N, 0, none⟩) xs.length nc)) rf58.1 rf58.2 .normal = b8.atR ⟨tm58 v0 bL bT bF bX v6 v7 v8 v9 (.slice (some ⟨N, 0, none⟩) xs.length nc), []⟩ [.code rf58.1, .beginRound, .code rf58.2] := by rw [hb8]; rfl
  rw [e0]
  clear e0 hb8
  have hS : Sees y S (some ⟨N, 0, none⟩) := fun ad e => by cases e; exact .inl hN
  generalize hTT : TW Try.prog ty Wg C n LW RwI S c k = T at hT hc ⊢
  generalize hlo : loopAt 58 (tm58 v0 bL bT bF bX v6 v7 v8 v9 undef) #[10] rf58.1 rf58.2 r = LO at hl hc
  have hlo' : LO = loopAt 58 (tm58 v0 bL bT bF bX v6 v7 v8 v9 undef) #[10] rf58.1 rf58.2 r := hlo.symm
  have hbusy : ∀ w₁ : World, ∃ lp : Loop, loopBusy 58 (tm58 v0 bL bT bF bX v6 v7 v8 v9 undef) #[10] rf58.1 rf58.2 r = .loop lp := fun _ => ⟨_, rfl⟩
  have t_end := fun (y : Gh) (w : World) (a : Act) (hm : y.1 l) (hl : w.heap[l]? = some (loopBusy 58 (tm58 v0 bL bT bF bX v6 v7 v8 v9 undef) #[10] rf58.1 rf58.2 r)) => t_endRound (T := T) (y := y) (w := w) (a := a) (cs := cs) (c := fr) hT hro hkn hm hl
  have t_beg := fun (a : Act) (k : List Item) (w : World) (hl : w.heap[l]? = some LO) => t_begin (T := T) (y := y) (w := w) (a := a) (k := k) (cs := fr :: cs) hT hro hk hm (hl.trans (congrArg some hlo'))
  generalize hbo : loopBusy 58 (tm58 v0 bL bT bF bX v6 v7 v8 v9 undef) #[10] rf58.1 rf58.2 r = BO at t_end t_beg
  obtain ⟨lpb, hlpb⟩ : ∃ lp : Loop, BO = .loop lp := by rw [← hbo]; exact ⟨_, rfl⟩
  obtain ⟨lpa, hlpa⟩ : ∃ lp : Loop, LO = .loop lp := by rw [← hlo]; exact ⟨_, rfl⟩
  rw [hlo] at t_end t_beg
  clear hbusy
  simp only [rf58, tm58, Try.f58]
  have hF : Gy ty Wg S l y w y w ∧ w.heap[l]? = some LO ∧ Fx w ∧ RdA w (some ⟨N, 0, none⟩) xs := ⟨Gy.refl hB, hl, hfx, hA⟩
  refine t_region hT [0] rfl ?_
  refine t_op hT rfl (by rfl) (by first | decide | assumption) (by first | rfl | (rw [hro]; rfl)) (fun _ hR K hK => ?_)
  replace hF := And.intro (hF.1.rely hR) (And.intro ((hR.keep l (.inl hm)).trans hF.2.1) (And.intro (A.fx hR hF.2.2.1) (rdA_rely hS hR hF.2.2.2)))
  clear hR
  go_simp
  try (unfold stored; go_simp)
  try go_ints
  refine hK _ _ y (by rw [listed_nil (by simp [go_sem, *])]; exact hT.idle _ _) ?_
  clear hK K
  try walk_nrm
  repeat (first | refine t_seq hT ?_ | refine t_block hT ?_ | refine t_skip hT ?_ | refine t_inBlock hT ?_ | refine t_rend hT ?_ | refine t_exit hT rfl ?_)
  refine t_beg _ _ _ hF.2.1 (fun w₁ hR hl1 => ?_)
  replace hF : Gy ty Wg S l y w y (setO w₁ l BO) ∧ (setO w₁ l BO).heap[l]? = some BO ∧ Fx (setO w₁ l BO) ∧ RdA (setO w₁ l BO) (some ⟨N, 0, none⟩) xs := by
    have g1 := hF.1.rely hR
    refine ⟨g1.trans (Gy.setO g1.bd (hl1.trans (congrArg some hlpa))), setO_at (g1.bd l (.inl hm)), ?_, ?_⟩
    · exact A.rely w₁ _ (fun b hb => setO_ne fun e => hlS (by rw [← e]; exact hb)) (A.fx hR hF.2.2.1)
    · exact rdA_heap (fun ad e => by cases e; exact setO_ne hNl) (rdA_rely hS hR hF.2.2.2)
  clear hR hl1
  generalize setO w₁ l BO = W1 at *
  repeat (first | refine t_seq hT ?_ | refine t_block hT ?_ | refine t_skip hT ?_ | refine t_inBlock hT ?_ | refine t_rend hT ?_ | refine t_exit hT rfl ?_)
  refine t_region hT [0, 1, 2] rfl ?_
  refine t_op hT rfl (by rfl) (by first | decide | assumption) (by first | rfl | (rw [hro]; rfl)) (fun _ hR K hK => ?_)
  replace hF := And.intro (hF.1.rely hR) (And.intro ((hR.keep l (.inl hm)).trans hF.2.1) (And.intro (A.fx hR hF.2.2.1) (rdA_rely hS hR hF.2.2.2)))
  clear hR
  have hce := A.fits _ hF.2.2.1
  go_simp
  try (unfold stored; go_simp)
  try go_ints
  refine hK _ _ y (dg_reads ?_) ?_
  · co_evs (exact evm_read (.inr A.sx))
  clear hK K
  try walk_nrm
  clear hce
  refine t_op hT rfl (by rfl) (by first | decide | assumption) (by first | rfl | (rw [hro]; rfl)) (fun _ hR K hK => ?_)
  replace hF := And.intro (hF.1.rely hR) (And.intro ((hR.keep l (.inl hm)).trans hF.2.1) (And.intro (A.fx hR hF.2.2.1) (rdA_rely hS hR hF.2.2.2)))
  clear hR
  go_simp
  try (unfold stored; go_simp)
  try go_ints
  refine hK _ _ y (by rw [listed_nil (by simp [go_sem, *])]; exact hT.idle _ _) ?_
  clear hK K
  try walk_nrm
  obtain ⟨fnF, codeF, hfF, hnF, hbF⟩ := A.code
  have hF0 : ∀ b, y.1 b ∨ S b → b < w.heap.size := hB
  refine t_callv hT rfl (by rfl) hk (by rw [hro]; rfl) (fun w => (run_callv rfl rfl hfF hnF hbF w).1) (fun w => (run_callv rfl rfl hfF hnF hbF w).2) (by walk_nrm; rw [← hTT]; exact A.test _ _ _ _ xs hF.2.2.2 hS hn hF.1.bd hF.2.2.1) ?_
  rintro _ y1 w1 ⟨rfl, gw⟩
  have hml : y1.1 l := gw.sub _ hm
  have hS1 : Sees y1 S (some ⟨N, 0, none⟩) := fun ad e => by cases e; exact .inl (gw.sub _ hN)
  have hrows1 := gw.rows
  have hsub1 := gw.sub
  replace hF := And.intro (hF.1.trans (.of_gw gw)) (And.intro ((gw.rg.keep l (.inl hm)).trans hF.2.1) (And.intro (A.fx gw.rg hF.2.2.1) (rdA_rely hS gw.rg hF.2.2.2)))
  clear gw
  try walk_nrm
  repeat (first | refine t_seq hT ?_ | refine t_block hT ?_ | refine t_skip hT ?_ | refine t_inBlock hT ?_ | refine t_rend hT ?_ | refine t_exit hT rfl ?_)
  by_cases hp : p xs = true
  · have hrowsT : y.2 = xs :: rest := by rw [hrows, if_pos hp]
    rw [hp]
    refine t_cond hT (t := _) rfl ?_
    simp only [if_true, if_false, reduceIte, Bool.false_eq_true, *]
    refine t_drawL hT (by first | kernel_rfl | rfl) (L := [[0, 1, 2, 3], [1, 0, 2, 3], [1, 2, 0, 3]]) (by decide +kernel) (fun w₁ hR ll hll => ?_)
    replace hF := And.intro (hF.1.rely hR) (And.intro ((hR.keep l (.inl hml)).trans hF.2.1) (And.intro (A.fx hR hF.2.2.1) (rdA_rely hS1 hR hF.2.2.2)))
    clear hR
    have hR : RG ty Wg S y1 w₁ { w₁ with drawn := w₁.drawn + 1 } := ⟨fun _ _ => rfl, Nat.le_refl _, id⟩
    replace hF := And.intro (hF.1.rely hR) (And.intro ((hR.keep l (.inl hml)).trans hF.2.1) (And.intro (A.fx hR hF.2.2.1) (rdA_rely hS1 hR hF.2.2.2)))
    clear hR
    generalize ({ w₁ with drawn := w₁.drawn + 1 } : World) = W2 at *
    simp only [List.mem_cons, List.not_mem_nil, or_false] at hll
    rcases hll with rfl | rfl | rfl
    · skip
      refine t_op hT rfl (by rfl) (by first | decide | assumption) (by first | rfl | (rw [hro]; rfl)) (fun _ hR K hK => ?_)
      replace hF := And.intro (hF.1.rely hR) (And.intro ((hR.keep l (.inl hml)).trans hF.2.1) (And.intro (A.fx hR hF.2.2.1) (rdA_rely hS1 hR hF.2.2.2)))
      clear hR
      have hce := A.lane _ hF.2.2.1
      go_simp
      try (unfold stored; go_simp)
      try go_ints
      refine hK _ _ y1 (dg_reads ?_) ?_
      · co_evs (exact evm_read (.inr A.sl))
      clear hK K
      try walk_nrm
      clear hce
      refine t_op hT rfl (by rfl) (by first | decide | assumption) (by first | rfl | (rw [hro]; rfl)) (fun _ hR K hK => ?_)
      replace hF := And.intro (hF.1.rely hR) (And.intro ((hR.keep l (.inl hml)).trans hF.2.1) (And.intro (A.fx hR hF.2.2.1) (rdA_rely hS1 hR hF.2.2.2)))
      clear hR
      go_simp
      try (unfold stored; go_simp)
      try go_ints
      refine hK _ _ y1 (by rw [listed_nil (by simp [go_sem, *])]; exact hT.idle _ _) ?_
      clear hK K
      try walk_nrm
      refine t_call hT rfl (by rfl) (by first | decide | assumption) (by first | rfl | (rw [hro]; rfl)) rfl Try.func61 (by rfl) rfl (by walk_nrm; exact clone_g hT _ _ xs hF.2.2.2 hS1 hn h1 hF.1.bd) ?_
      rintro _ y2 w2 ⟨r2, c2, rfl, ho2, hm2, hge, gw⟩
      have hfresh : ∀ b, y1.1 b ∨ S b → b ≠ r2 := fun b hb e => by have := hF.1.bd b hb; omega
      replace hF := And.intro (hF.1.trans (.of_gw gw)) (And.intro ((gw.rg.keep l (.inl hml)).trans hF.2.1) (And.intro (A.fx gw.rg hF.2.2.1) ho2))
      have hml2 := gw.sub _ hml
      have hrows2 := gw.rows
      have hsub2 := gw.sub
      clear gw ho2 hge
      try walk_nrm
      obtain ⟨M2, L2⟩ := y2
      have hL2 : L2 = xs :: rest := hrows2.trans (hrows1.trans hrowsT)
      subst hL2
      have hlr : l ≠ r2 := hfresh l (.inl hml)
      have t_snd := t_end (fun b => M2 b ∧ b ≠ r2, rest)
      subst hTT
      refine t_send (xs := xs) (r := r2) (v := .slice (some ⟨r2, 0, none⟩) xs.length c2) (z' := .tuple #[]) rfl (by rfl) hk (by rw [hro]; rfl) (fun w => ?_) (fun w => ?_) hm2 (fun w₁ hR => rwI_of (hF.2.2.2.heap (hR.keep r2 (.inl hm2)))) (fun w₁ hR => ?_)
      · simp [go_sem, scase]
      · simp [go_sem]
      replace hF := And.intro (gy_drop (L' := rest) (hF.1.rely hR) (fun b hb => hfresh b (.inl (hsub1 b hb)))) ((hR.keep l (.inl hml2)).trans hF.2.1)
      refine t_rend hTw ?_
      refine t_inBlock hTw ?_
      refine t_snd _ _ ⟨hml2, hlr⟩ hF.2 (fun w₂ hR2 hl2 => ?_)
      exact hc _ _ ((hF.1.rely hR2).trans (Gy.setO (hF.1.rely hR2).bd (hl2.trans (congrArg some hlpb)))) rfl (setO_at ((hF.1.rely hR2).bd l (.inl ⟨hml2, hlr⟩)))
    · skip
      refine t_op hT rfl (by rfl) (by first | decide | assumption) (by first | rfl | (rw [hro]; rfl)) (fun _ hR K hK => ?_)
      replace hF := And.intro (hF.1.rely hR) (And.intro ((hR.keep l (.inl hml)).trans hF.2.1) (And.intro (A.fx hR hF.2.2.1) (rdA_rely hS1 hR hF.2.2.2)))
      clear hR
      go_simp
      try (unfold stored; go_simp)
      try go_ints
      refine hK _ _ y1 (by rw [listed_nil (by simp [go_sem, *])]; exact hT.idle _ _) ?_
      clear hK K
      try walk_nrm
      refine t_op hT rfl (by rfl) (by first | decide | assumption) (by first | rfl | (rw [hro]; rfl)) (fun _ hR K hK => ?_)
      replace hF := And.intro (hF.1.rely hR) (And.intro ((hR.keep l (.inl hml)).trans hF.2.1) (And.intro (A.fx hR hF.2.2.1) (rdA_rely hS1 hR hF.2.2.2)))
      clear hR
      have hce := A.lane _ hF.2.2.1
      go_simp
      try (unfold stored; go_simp)
      try go_ints
      refine hK _ _ y1 (dg_reads ?_) ?_
      · co_evs (exact evm_read (.inr A.sl))
      clear hK K
      try walk_nrm
      clear hce
      refine t_call hT rfl (by rfl) (by first | decide | assumption) (by first | rfl | (rw [hro]; rfl)) rfl Try.func61 (by rfl) rfl (by walk_nrm; exact clone_g hT _ _ xs hF.2.2.2 hS1 hn h1 hF.1.bd) ?_
      rintro _ y2 w2 ⟨r2, c2, rfl, ho2, hm2, hge, gw⟩
      have hfresh : ∀ b, y1.1 b ∨ S b → b ≠ r2 := fun b hb e => by have := hF.1.bd b hb; omega
      replace hF := And.intro (hF.1.trans (.of_gw gw)) (And.intro ((gw.rg.keep l (.inl hml)).trans hF.2.1) (And.intro (A.fx gw.rg hF.2.2.1) ho2))
      have hml2 := gw.sub _ hml
      have hrows2 := gw.rows
      have hsub2 := gw.sub
      clear gw ho2 hge
      try walk_nrm
      obtain ⟨M2, L2⟩ := y2
      have hL2 : L2 = xs :: rest := hrows2.trans (hrows1.trans hrowsT)
      subst hL2
      have hlr : l ≠ r2 := hfresh l (.inl hml)
      have t_snd := t_end (fun b => M2 b ∧ b ≠ r2, rest)
      subst hTT
      refine t_send (xs := xs) (r := r2) (v := .slice (some ⟨r2, 0, none⟩) xs.length c2) (z' := .tuple #[]) rfl (by rfl) hk (by rw [hro]; rfl) (fun w => ?_) (fun w => ?_) hm2 (fun w₁ hR => rwI_of (hF.2.2.2.heap (hR.keep r2 (.inl hm2)))) (fun w₁ hR => ?_)
      · simp [go_sem, scase]
      · simp [go_sem]
      replace hF := And.intro (gy_drop (L' := rest) (hF.1.rely hR) (fun b hb => hfresh b (.inl (hsub1 b hb)))) ((hR.keep l (.inl hml2)).trans hF.2.1)
      refine t_rend hTw ?_
      refine t_inBlock hTw ?_
      refine t_snd _ _ ⟨hml2, hlr⟩ hF.2 (fun w₂ hR2 hl2 => ?_)
      exact hc _ _ ((hF.1.rely hR2).trans (Gy.setO (hF.1.rely hR2).bd (hl2.trans (congrArg some hlpb)))) rfl (setO_at ((hF.1.rely hR2).bd l (.inl ⟨hml2, hlr⟩)))
    · skip
      refine t_op hT rfl (by rfl) (by first | decide | assumption) (by first | rfl | (rw [hro]; rfl)) (fun _ hR K hK => ?_)
      replace hF := And.intro (hF.1.rely hR) (And.intro ((hR.keep l (.inl hml)).trans hF.2.1) (And.intro (A.fx hR hF.2.2.1) (rdA_rely hS1 hR hF.2.2.2)))
      clear hR
      go_simp
      try (unfold stored; go_simp)
      try go_ints
      refine hK _ _ y1 (by rw [listed_nil (by simp [go_sem, *])]; exact hT.idle _ _) ?_
      clear hK K
      try walk_nrm
      refine t_call hT rfl (by rfl) (by first | decide | assumption) (by first | rfl | (rw [hro]; rfl)) rfl Try.func61 (by rfl) rfl (by walk_nrm; exact clone_g hT _ _ xs hF.2.2.2 hS1 hn h1 hF.1.bd) ?_
      rintro _ y2 w2 ⟨r2, c2, rfl, ho2, hm2, hge, gw⟩
      have hfresh : ∀ b, y1.1 b ∨ S b → b ≠ r2 := fun b hb e => by have := hF.1.bd b hb; omega
      replace hF := And.intro (hF.1.trans (.of_gw gw)) (And.intro ((gw.rg.keep l (.inl hml)).trans hF.2.1) (And.intro (A.fx gw.rg hF.2.2.1) ho2))
      have hml2 := gw.sub _ hml
      have hrows2 := gw.rows
      have hsub2 := gw.sub
      clear gw ho2 hge
      try walk_nrm
      refine t_op hT rfl (by rfl) (by first | decide | assumption) (by first | rfl | (rw [hro]; rfl)) (fun _ hR K hK => ?_)
      replace hF := And.intro (hF.1.rely hR) (And.intro ((hR.keep l (.inl hml2)).trans hF.2.1) (And.intro (A.fx hR hF.2.2.1) (hF.2.2.2.heap (hR.keep r2 (.inl hm2)))))
      clear hR
      have hce := A.lane _ hF.2.2.1
      go_simp
      try (unfold stored; go_simp)
      try go_ints
      refine hK _ _ y2 (dg_reads ?_) ?_
      · co_evs (exact evm_read (.inr A.sl))
      clear hK K
      try walk_nrm
      clear hce
      obtain ⟨M2, L2⟩ := y2
      have hL2 : L2 = xs :: rest := hrows2.trans (hrows1.trans hrowsT)
      subst hL2
      have hlr : l ≠ r2 := hfresh l (.inl hml)
      have t_snd := t_end (fun b => M2 b ∧ b ≠ r2, rest)
      subst hTT
      refine t_send (xs := xs) (r := r2) (v := .slice (some ⟨r2, 0, none⟩) xs.length c2) (z' := .tuple #[]) rfl (by rfl) hk (by rw [hro]; rfl) (fun w => ?_) (fun w => ?_) hm2 (fun w₁ hR => rwI_of (hF.2.2.2.heap (hR.keep r2 (.inl hm2)))) (fun w₁ hR => ?_)
      · simp [go_sem, scase]
      · simp [go_sem]
      replace hF := And.intro (gy_drop (L' := rest) (hF.1.rely hR) (fun b hb => hfresh b (.inl (hsub1 b hb)))) ((hR.keep l (.inl hml2)).trans hF.2.1)
      refine t_rend hTw ?_
      refine t_inBlock hTw ?_
      refine t_snd _ _ ⟨hml2, hlr⟩ hF.2 (fun w₂ hR2 hl2 => ?_)
      exact hc _ _ ((hF.1.rely hR2).trans (Gy.setO (hF.1.rely hR2).bd (hl2.trans (congrArg some hlpb)))) rfl (setO_at ((hF.1.rely hR2).bd l (.inl ⟨hml2, hlr⟩)))
  · have hrowsF : y.2 = rest := by rw [hrows, if_neg hp]
    rw [show p xs = false by simpa using hp]
    refine t_cond hT (t := _) rfl ?_
    simp only [if_true, if_false, reduceIte, Bool.false_eq_true, *]
    refine t_skip hT ?_
    refine t_inBlock hT ?_
    refine t_end _ _ _ hml hF.2.1 (fun w₂ hR2 hl2 => ?_)
    exact hc _ _ ((hF.1.rely hR2).trans (Gy.setO (hF.1.rely hR2).bd (hl2.trans (congrArg some hlpb)))) (hrows1.trans hrowsF) (setO_at ((hF.1.rely hR2).bd l (.inl hml)))
end

end Go.Proofs.Ytkbfcaaihellfaa
