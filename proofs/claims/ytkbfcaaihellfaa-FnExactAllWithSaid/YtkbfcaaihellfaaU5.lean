/- Steps on the way to the law; each part says what it proves. -/
import Derived.Test.YtkbfcaaihellfaaU1
import Derived.Conc.DeferLaws
import Derived.Test.YtkbfcaaihellfaaChecked
import Derived.Conc.WgGenN3
import Derived.KernelRfl
import Derived.Test.YtkbfcaaihellfaaU3

set_option linter.unusedSimpArgs false

/- Walks in company: a range over a function: its steps; an operation that is a call of the loop's body. No program in sight. -/
namespace Go.Proofs.Ytkbfcaaihellfaa
open Go.Conc Go.ConcN
set_option linter.unusedVariables false
set_option linter.unusedSectionVars false

section
variable {P : Program} {main : Bool} {b : Frame} {a : Act} {k : List Item} {cs : List Frame} {w : World} {ops : Array Oper}

def loopAt (fn : FuncId) (tmps : Array Value) (params : Array Tmp) (assign body : Code) (r : Nat) : Obj := .loop ⟨.ready, none, fn, tmps, params, assign, body, r⟩
def loopBusy (fn : FuncId) (tmps : Array Value) (params : Array Tmp) (assign body : Code) (r : Nat) : Obj := .loop ⟨.busy, none, fn, tmps, params, assign, body, r⟩
def loopOver (fn : FuncId) (tmps : Array Value) (params : Array Tmp) (assign body : Code) (r : Nat) : Obj := .loop ⟨.exhausted, none, fn, tmps, params, assign, body, r⟩
theorem sG_rangeFunc {f : Operand} {params : Array Tmp} {assign body code : Code} {fid : FuncId} {fn : Func} {cap : Array Value} (hro : b.roundOf = none) (hk : b.kind ≠ .early) (hf : a.eval f = .func (.func fid) #[] cap)
    (hfn : P.funcs[fid]? = some fn) (hname : (fn.name == "runtime.NumGoroutine") = false) (hb : fn.body = some code) :
    stepG P main (G (b.atR a (.code (.rangeFunc f params assign body) :: k)) cs) w =
      .go (G (Frame.enter P fid (#[.func (.yield (w.heap.size + 1)) #[] #[]] ++ cap) .normal) (b.atR ⟨a.tmps, ⟨.collected w.heap.size, #[]⟩ :: a.defers⟩ (.inRangeFunc (w.heap.size + 1) :: k) :: cs))
        ((w.alloc (.deferred (some []))).alloc (loopAt b.fn a.tmps params assign body w.heap.size)) #[] := by
  have h1 : ¬ fn.name = "runtime.NumGoroutine" := by simpa using hname
  have hk' : (b.kind == CallKind.early) = false := by simpa using hk
  have e1 : (Instr.enterLoop b.fn a.tmps params assign body none).runT P w #[] = (.ok (w.heap.size + 1, [⟨.collected w.heap.size, #[]⟩]) ((w.alloc (.deferred (some []))).alloc (loopAt b.fn a.tmps params assign body w.heap.size)), #[]) := by
    have : (w.alloc (.deferred (some []))).heap.size = w.heap.size + 1 := Array.size_push _
    rw [← this]
    rfl
  generalize hW : ((w.alloc (.deferred (some []))).alloc (loopAt b.fn a.tmps params assign body w.heap.size)) = W at e1 ⊢
  have he : (b.atR ⟨a.tmps, ⟨.collected w.heap.size, #[]⟩ :: a.defers⟩ (.inRangeFunc (w.heap.size + 1) :: k)).eval f = .func (.func fid) #[] cap := by rw [Frame.eval_atR]; exact hf
  have h2 : ¬ fn.body = none := by rw [hb]; simp
  have e2 : ((do let d ← resolve (b.atR ⟨a.tmps, ⟨.collected w.heap.size, #[]⟩ :: a.defers⟩ (.inRangeFunc (w.heap.size + 1) :: k)).eval { callee := .value f, args := #[.const (.func (.yield (w.heap.size + 1)) #[] #[])], argTypes := #[] } 0; invoke d.target d.args) : Sem Next).runT P W #[] = (.ok (.enter fid (#[.func (.yield (w.heap.size + 1)) #[] #[]] ++ cap)) W, #[]) := by
    rw [← Prod.eta (Sem.runT P _ W #[])]
    simp [resolve, Deferred.ofValue, he, invoke, callFunc, hfn, h1, h2]
    rfl
  have e3 : stepG P main (G (b.atR a (.code (.rangeFunc f params assign body) :: k)) cs) w = GStep.after (seen P b.fn #[]) (stepG.apply P true (b.atR ⟨a.tmps, ⟨.collected w.heap.size, #[]⟩ :: a.defers⟩ (.inRangeFunc (w.heap.size + 1) :: k)) cs none (do let d ← resolve (b.atR ⟨a.tmps, ⟨.collected w.heap.size, #[]⟩ :: a.defers⟩ (.inRangeFunc (w.heap.size + 1) :: k)).eval { callee := .value f, args := #[.const (.func (.yield (w.heap.size + 1)) #[] #[])], argTypes := #[] } 0; invoke d.target d.args) W) := by
    simp only [G, stepG, stepG.exec, Frame.atR, hro, e1]
    rfl
  rw [e3, seen_none]
  unfold stepG.apply
  simp only [if_true, e2]
  simp [G, Frame.atR, hk', GStep.after, seen_none]

/-- an object turns -/
def setO (w : World) (l : Nat) (o : Obj) : World := { w with heap := w.heap.setIfInBounds l o }
theorem setO_at {l : Nat} {o : Obj} (h : l < w.heap.size) : (setO w l o).heap[l]? = some o := by unfold setO; exact Array.getElem?_setIfInBounds_self_of_lt h
theorem setO_ne {l b : Nat} {o : Obj} (h : b ≠ l) : (setO w l o).heap[b]? = w.heap[b]? := by unfold setO; exact Array.getElem?_setIfInBounds_ne (fun e => h e.symm)
theorem setO_size {l : Nat} {o : Obj} : (setO w l o).heap.size = w.heap.size := by simp [setO]
def EvO (l : Nat) (es : Array Event) : Prop := ∀ e ∈ es, e.loc = .obj l ∧ e.sync = false
theorem seen_evO {fn : FuncId} {l : Nat} {es : Array Event} (h : EvO l es) : EvO l (seen P fn es) := fun e he => h e (mem_seen he)

variable {l r f : Nat} {tmps : Array Value} {params : Array Tmp} {assign body : Code}
theorem run_getL {lp : Loop} (hl : w.heap[l]? = some (.loop lp)) : (getObj l).run P w = .ok (.loop lp) w := by simp [getObj, Sem.run, hl]
theorem ev_getL {lp : Loop} {es : Array Event} (hl : w.heap[l]? = some (.loop lp)) : (getObj l).events P w es = es.push ⟨.obj l, false, false⟩ := by simp [getObj, Sem.events, Sem.runT, hl, -Sem.runT_eq, Obj.isChan]
theorem run_setL {lp lp' : Loop} (hl : w.heap[l]? = some (.loop lp)) : (setObj l (.loop lp')).run P w = .ok () (setO w l (.loop lp')) := by simp [setObj, Sem.run, hl, setO]
theorem ev_setL {lp lp' : Loop} {es : Array Event} (hl : w.heap[l]? = some (.loop lp)) : (setObj l (.loop lp')).events P w es = es.push ⟨.obj l, true, false⟩ := by simp [setObj, Sem.events, Sem.runT, hl, -Sem.runT_eq, Obj.isChan]
theorem run_getD {ds : Option (List Deferred)} (hl : w.heap[l]? = some (.deferred ds)) : (getObj l).run P w = .ok (.deferred ds) w := by simp [getObj, Sem.run, hl]
theorem ev_getD {ds : Option (List Deferred)} {es : Array Event} (hl : w.heap[l]? = some (.deferred ds)) : (getObj l).events P w es = es.push ⟨.obj l, false, false⟩ := by simp [getObj, Sem.events, Sem.runT, hl, -Sem.runT_eq, Obj.isChan]
theorem run_setD {ds ds' : Option (List Deferred)} (hl : w.heap[l]? = some (.deferred ds)) : (setObj l (.deferred ds')).run P w = .ok () (setO w l (.deferred ds')) := by simp [setObj, Sem.run, hl, setO]
theorem ev_setD {ds ds' : Option (List Deferred)} {es : Array Event} (hl : w.heap[l]? = some (.deferred ds)) : (setObj l (.deferred ds')).events P w es = es.push ⟨.obj l, true, false⟩ := by simp [setObj, Sem.events, Sem.runT, hl, -Sem.runT_eq, Obj.isChan]
theorem run_getLoop {lp : Loop} (hl : w.heap[l]? = some (.loop lp)) : (Instr.getLoop l).run P w = .ok lp w := by simp [Instr.getLoop, run_getL hl]
theorem ev_getLoop {lp : Loop} {es : Array Event} (hl : w.heap[l]? = some (.loop lp)) : (Instr.getLoop l).events P w es = es.push ⟨.obj l, false, false⟩ := by simp [Instr.getLoop, run_getL hl, ev_getL hl]
theorem sG_begin (hro : b.roundOf = some l) (hk : b.kind ≠ .early) (hl : w.heap[l]? = some (loopAt f tmps params assign body r)) :
    ∃ es, EvO l es ∧ stepG P main (G (b.atR a (.beginRound :: k)) cs) w = .go (G (b.atR a k) cs) (setO w l (loopBusy f tmps params assign body r)) es := by
  have hk' : (b.kind == CallKind.early) = false := by simpa using hk
  have e1 : ((do Instr.beginRound l; pure .skip) : Sem Next).runT P w #[] = (.ok .skip (setO w l (loopBusy f tmps params assign body r)), #[⟨.obj l, false, false⟩, ⟨.obj l, true, false⟩]) := by
    unfold loopAt at hl
    simp [Instr.beginRound, run_getLoop hl, ev_getLoop hl, run_setL hl, ev_setL hl, loopBusy]
  refine ⟨seen P b.fn #[⟨.obj l, false, false⟩, ⟨.obj l, true, false⟩], seen_evO (by intro e he; simp at he; rcases he with rfl | rfl <;> exact ⟨rfl, rfl⟩), ?_⟩
  have e3 : stepG P main (G (b.atR a (.beginRound :: k)) cs) w = stepG.apply P true (b.atR a (.beginRound :: k)) cs none (do Instr.beginRound l; pure .skip) w := by
    simp only [G, stepG, stepG.exec, Frame.atR, hro]
    rfl
  rw [e3]
  unfold stepG.apply
  simp only [if_true, e1]
  simp [G, Frame.atR, hk', GStep.after, Frame.finish]
theorem sG_endRound {c : Frame} (hro : b.roundOf = some l) (hk : b.kind = .normal) (hl : w.heap[l]? = some (loopBusy f tmps params assign body r)) :
    ∃ es, EvO l es ∧ stepG P main (G (b.atR a []) (c :: cs)) w = .go (G (c.finish (.bool true)) cs) (setO w l (loopAt f tmps params assign body r)) es := by
  have e1 : (Instr.endRound l none).runT P w #[] = (.ok (.bool true) (setO w l (loopAt f tmps params assign body r)), #[⟨.obj l, false, false⟩, ⟨.obj l, true, false⟩]) := by
    unfold loopBusy at hl
    simp [Instr.endRound, run_getLoop hl, ev_getLoop hl, run_setL hl, ev_setL hl, loopAt]
  refine ⟨seen P b.fn #[⟨.obj l, false, false⟩, ⟨.obj l, true, false⟩], seen_evO (by intro e he; simp at he; rcases he with rfl | rfl <;> exact ⟨rfl, rfl⟩), ?_⟩
  simp only [G, stepG, stepG.exec, Frame.atR, hro, e1]
  simp [doReturn, hk, GStep.after]
theorem sG_endRange (hl : w.heap[l]? = some (loopAt f tmps params assign body r)) :
    ∃ es, EvO l es ∧ stepG P main (G (b.atR a (.endRangeFunc l :: k)) cs) w = .go (G (b.atR a k) cs) (setO w l (loopOver f tmps params assign body r)) es := by
  have e1 : (Instr.endLoop l).runT P w #[] = (.ok none (setO w l (loopOver f tmps params assign body r)), #[⟨.obj l, false, false⟩, ⟨.obj l, true, false⟩]) := by
    unfold loopAt at hl
    simp [Instr.endLoop, run_getLoop hl, ev_getLoop hl, run_setL hl, ev_setL hl, loopOver]
  refine ⟨seen P b.fn #[⟨.obj l, false, false⟩, ⟨.obj l, true, false⟩], seen_evO (by intro e he; simp at he; rcases he with rfl | rfl <;> exact ⟨rfl, rfl⟩), ?_⟩
  simp only [G, stepG, stepG.exec, Frame.atR, e1]
  simp [GStep.after]
theorem sG_take {todo : List Item} {ds : List Deferred} (hro : b.roundOf = none) (hd : a.defers = ⟨.collected r, #[]⟩ :: ds) (hl : w.heap[r]? = some (.deferred (some []))) :
    ∃ es, EvO r es ∧ stepG P main (G { b.atR a todo with mode := .returning } cs) w = .go (G { b.atR ⟨a.tmps, ds⟩ todo with mode := .returning } cs) (setO w r (.deferred none)) es := by
  have e1 : (Instr.takeDeferred r).runT P w #[] = (.ok [] (setO w r (.deferred none)), #[⟨.obj r, false, false⟩, ⟨.obj r, true, false⟩]) := by
    simp [Instr.takeDeferred, run_getD hl, ev_getD hl, run_setD hl, ev_setD hl]
  refine ⟨seen P b.fn #[⟨.obj r, false, false⟩, ⟨.obj r, true, false⟩], seen_evO (by intro e he; simp at he; rcases he with rfl | rfl <;> exact ⟨rfl, rfl⟩), ?_⟩
  simp only [G, stepG, unwind, Frame.atR, hd, e1]
  simp [GStep.after]
/-- the loop's body is called -/
theorem run_yield {o : Oper} {x z : Operand} {ats : Array TypeId} {p : Tmp} (hop : o.op = .call { callee := .value x, args := #[z], argTypes := ats }) (hx : a.eval x = .func (.yield l) #[] #[]) (hl : w.heap[l]? = some (loopAt f tmps #[p] assign body r)) :
    (execOp a.eval o).run P w = .ok (.round l f (tmps.setIfInBounds p (a.eval z)) assign body) w ∧ (execOp a.eval o).events P w #[] = #[⟨.obj l, false, false⟩] := by
  unfold loopAt at hl
  unfold execOp
  constructor
  · simp [hop, resolve, Deferred.ofValue, hx, invoke, Instr.yield, run_getLoop hl]
  · simp [hop, resolve, Deferred.ofValue, hx, invoke, Instr.yield, run_getLoop hl, ev_getLoop hl]
end

end Go.Proofs.Ytkbfcaaihellfaa

/- Workers with lanes and their starter, up to the door of Wait: the starter's script, and where each stands. No program in sight. -/
namespace Go.Proofs.Ytkbfcaaihellfaa
open Go.Conc Go.ConcN
open Go.ConcR (KK wgBlock WgAt stA smA rd wr mk Payload Aside2 DC0)
set_option linter.unusedVariables false
set_option linter.unusedSectionVars false

section
variable [Payload] (P : Program) (ty : TypeId) (Wg C n LW : Nat) (Rw : List Int → Nat → Obj → Value → Prop)

/-! ### the starter ahead of the last go statement -/
def AtMkM (m : Mark) (K : Goroutine → World → Prop) (g : Goroutine) (w : World) : Prop := g.status = .running ∧ ∃ g', stepG P true g w = .go g' w #[mk m] ∧ K g' w
def AtA1M (K : Goroutine → World → Prop) (g : Goroutine) (w : World) : Prop :=
  g.status = .running ∧ ∀ v : Nat, v < 2147483647 → WgAt ty Wg w (v * KK) 0 → ∃ g', stepG P true g w = .go g' (w.setCell (stA Wg) (.int .u64 ((v + 1) * KK))) #[rd (stA Wg), wr (stA Wg)] ∧ K g' (w.setCell (stA Wg) (.int .u64 ((v + 1) * KK)))
/-- It stores lane c into the row of lanes. -/
def AtLaneM (j : Nat) (K : Nat → Goroutine → World → Prop) (M : Nat → Prop) (g : Goroutine) (w : World) : Prop :=
  g.status = .running ∧ ∃ g' c, M c ∧ PayAt C n w ∧ stepG P true g w = .go g' (w.setCell ⟨C, j, none⟩ (.chan (some c))) #[⟨.cell ⟨C, j, none⟩, true, false⟩] ∧ K c g' (w.setCell ⟨C, j, none⟩ (.chan (some c)))
/-- It starts worker j + 1: S' is what that one may read. -/
def AtGoM (S : Nat → Prop) (j : Nat) (ls : List (List Int)) (c : Nat) (K : (Nat → Prop) → (Nat → Prop) → Goroutine → World → Prop) (M : Nat → Prop) (g : Goroutine) (w : World) : Prop :=
  g.status = .running ∧ ∃ g' child S', stepG P true g w = .spawn g' child w #[] ∧ child.status = .running ∧ (∀ b, S' b → M b ∨ S b) ∧ M c ∧ ¬ S' c ∧ ¬ S' C ∧ w.heap[c]? = some (.chan 0 #[] false 0 0 false) ∧ Has C j (.chan (some c)) w ∧
    WScr P ty Wg C n LW Rw S' c (j + 1) ls (fun _ => False) child w ∧ K (fun b => S b ∨ S' b) (fun b => M b ∧ ¬ S' b ∧ b ≠ c) g' w
section
variable (S : Nat → Prop) (j : Nat) (ls : List (List Int)) (K : Nat → (Nat → Prop) → (Nat → Prop) → Goroutine → World → Prop)
def StGo (c : Nat) (M : Nat → Prop) (g : Goroutine) (w : World) : Prop := AtGoM P ty Wg C n LW Rw S j ls c (K c) M g w
def StKe (c : Nat) (M : Nat → Prop) (g : Goroutine) (w : World) : Prop := AtMkM P .enable (fun g w => ∃ f, Way P true ty Wg S (StGo P ty Wg C n LW Rw S j ls K c) f M g w) g w
def StA1 (c : Nat) (M : Nat → Prop) (g : Goroutine) (w : World) : Prop := AtA1M P ty Wg (fun g w => ∃ f, Way P true ty Wg S (StKe P ty Wg C n LW Rw S j ls K c) f M g w) g w
def StKd (c : Nat) (M : Nat → Prop) (g : Goroutine) (w : World) : Prop := AtMkM P .disable (fun g w => ∃ f, Way P true ty Wg S (StA1 P ty Wg C n LW Rw S j ls K c) f M g w) g w
def StLane (M : Nat → Prop) (g : Goroutine) (w : World) : Prop := AtLaneM P C n j (fun c g w => ∃ f, Way P true ty Wg S (StKd P ty Wg C n LW Rw S j ls K c) f M g w) M g w
end
/-- THE STARTER's SCRIPT: workers still to be started, each with its rows; then the lanes; then Door. -/
def MSp (Door : List (Nat × List (List Int)) → (Nat → Prop) → (Nat → Prop) → Goroutine → World → Prop) : List (List (List Int)) → Nat → List (Nat × List (List Int)) → (Nat → Prop) → (Nat → Prop) → Goroutine → World → Prop
  | [], j, L, S, M, g, w => Door L S M g w
  | ls :: rest, j, L, S, M, g, w => ∃ f, Way P true ty Wg S (StLane P ty Wg C n LW Rw S j ls (fun c S' M' g' w' => MSp Door rest (j + 1) (L ++ [(c, ls)]) S' M' g' w')) f M g w

/-! ### where a worker stands -/
structure Wk where
  rows : List (List Int)
  c : Nat
  M : Nat → Prop
  S : Nat → Prop
  st : Nat
  f : Tr
  m : Nat
  d : Nat
inductive WOk (k : Nat) : Wk → Goroutine → World → Prop
  | way {rows : List (List Int)} {c : Nat} {M S : Nat → Prop} {f : Tr} {m : Nat} {g : Goroutine} {w : World} : Way P false ty Wg S (WStop P ty Wg C n LW Rw S c k rows) f M g w → WOk k ⟨rows, c, M, S, 9, f, m, 0⟩ g w
  | park {xs : List Int} {rest : List (List Int)} {c r : Nat} {M S : Nat → Prop} {o : Obj} {v z' : Value} {g₂ : Goroutine} {w : World} : M r → w.heap[r]? = some o → Rw xs r o v → WScr P ty Wg C n LW Rw S c k rest (fun b => M b ∧ b ≠ r) (Go.Conc.served g₂ undef) w →
      WOk k ⟨xs :: rest, c, M, S, 8, .leaf, 0, 0⟩ (parked g₂ #[scase c v z'] .send) w
  | tail7 {c : Nat} {M S : Nat → Prop} {m : Nat} {g : Goroutine} {w : World} : Goes P false (RW ty Wg C n LW (k - 1)) DC0 (AtR0 P ty Wg C n LW k (.chan (some c))) m g w → WOk k ⟨[], c, M, S, 7, .leaf, m, 0⟩ g w
  | tail {c : Nat} {M S : Nat → Prop} {s m d : Nat} {g : Goroutine} {w : World} : s ≤ 6 → WSit P ty Wg C n no no LW k (.chan (some c)) s m d g w → WOk k ⟨[], c, M, S, s, .leaf, m, d⟩ g w
/-- What worker k suffers. -/
structure RA (k : Nat) (x : Wk) (w w₁ : World) : Prop where
  rm : RM ty Wg (fun b => x.M b ∨ x.S b) w w₁
  rw : RW ty Wg C n LW (k - 1) w w₁
theorem WScr.rely {S : Nat → Prop} {c k : Nat} : ∀ {L : List (List Int)} {M : Nat → Prop} {g : Goroutine} {w w₁ : World}, WScr P ty Wg C n LW Rw S c k L M g w → RM ty Wg (fun b => M b ∨ S b) w w₁ → WScr P ty Wg C n LW Rw S c k L M g w₁
  | [], _, _, _, _, ⟨f, h⟩, r => ⟨f, h.rely r⟩
  | _ :: _, _, _, _, _, ⟨f, h⟩, r => ⟨f, h.rely r⟩
variable {P ty Wg C n LW Rw}
theorem WOk.rely {k : Nat} {x : Wk} {g : Goroutine} {w w₁ : World} (h : WOk P ty Wg C n LW Rw k x g w) (r : RA ty Wg C n LW k x w w₁) : WOk P ty Wg C n LW Rw k x g w₁ := by
  cases h with
  | way h => exact .way (h.rely r.rm)
  | park h1 h2 h3 h4 => exact .park h1 ((r.rm.keep _ (.inl h1)).trans h2) h3 (WScr.rely P ty Wg C n LW Rw h4 (r.rm.mono fun b hb => hb.imp (·.1) id))
  | tail7 h => exact .tail7 (Goes.rely (fun _ _ _ a b => a.trans b) h r.rw)
  | tail h1 h2 => exact .tail h1 (h2.rely r.rw)
theorem WStop.running {S : Nat → Prop} {c k : Nat} {L : List (List Int)} {M : Nat → Prop} {g : Goroutine} {w : World} (h : WStop P ty Wg C n LW Rw S c k L M g w) : g.status = .running := by
  cases L <;> exact h.1
/-- It runs, it has ended, or it is parked at its send. -/
theorem WOk.status {k : Nat} {x : Wk} {g : Goroutine} {w : World} (h : WOk P ty Wg C n LW Rw k x g w) : (g.status = .running ∨ g.status = .finished) ∨ (x.st = 8 ∧ ∃ g₂ v z', g = parked g₂ #[scase x.c v z'] .send) := by
  cases h with
  | way h => exact .inl (.inl (h.running fun _ _ _ => WStop.running))
  | park => exact .inr ⟨rfl, _, _, _, rfl⟩
  | tail7 h => exact .inl (.inl (Goes.running (fun _ _ h => h.1) w (RW.refl w) h))
  | tail h1 h2 => exact .inl h2.status
/-- Nobody wakes it while its lane is open. -/
theorem WOk.woken {k : Nat} {x : Wk} {g : Goroutine} {w w' : World} (h : WOk P ty Wg C n LW Rw k x g w) (hc : x.st = 8 → ∃ buf s r tm cap, w'.heap[x.c]? = some (.chan cap buf false s r tm)) (a a' : Goroutine) : woken P a a' w' g = g := by
  rcases h.status with hs | ⟨hs, g₂, v, z', rfl⟩
  · unfold Go.Conc.woken
    split
    · exact again_running _ hs
    · rfl
  · obtain ⟨buf, s, r, tm, cap, hc⟩ := hc hs
    exact woken_send_open a a' hc
end

end Go.Proofs.Ytkbfcaaihellfaa

/- sync.WaitGroup in this program: what the kit's walks through Add, Done, Wait ask. -/
namespace Go.Proofs.Ytkbfcaaihellfaa
open Go.Conc Go.ConcN
abbrev wgL : Go.Conc.Lib.WgLink := { add := 57, done := 59, wait := 62, relMerge := 71, disable := 72, enable := 73, inBubble := 74, associate := 75, fatal := 76, uOr := 77, uAdd := 78, raceRead := 79, uLoad := 80, uStore := 81, disassociate := 82, semrelease := 83, acquire := 85, isAssociated := 86, uCas := 87, raceWrite := 88, semacquire := 89, orU64 := 95, addU64 := 96, loadU64 := 97, storeU64 := 98, casU64 := 99, tWgP := 72, tUP := 74, tAssoc := 75, tWg := 60, tAU := 57, tU64 := 55, tUint := 79, tU32 := 58, tPU32 := 80, tPAU := 88, tPU64 := 90, tNoCopy := 52, tANoCopy := 53, tAlign64 := 54 }
theorem wgLib : Go.Conc.Lib.WgLib Try.prog wgL :=
  ⟨Try.func57, Try.func59, Try.func62, Try.func71, Try.func72, Try.func73, Try.func74, Try.func75, Try.func76, Try.func77, Try.func78, Try.func79, Try.func80, Try.func81, Try.func82, Try.func83, Try.func85, Try.func86, Try.func87, Try.func88, Try.func89, Try.func95, Try.func96, Try.func97, Try.func98, Try.func99, Try.underlying72, Try.runUnderlying72, Try.sizeOf72, Try.isAgg72, Try.zeroValue72, Try.underlying74, Try.runUnderlying74, Try.sizeOf74, Try.isAgg74, Try.zeroValue74, Try.underlying75, Try.runUnderlying75, Try.sizeOf75, Try.isAgg75, Try.zeroValue75, Try.underlying60, Try.runUnderlying60, Try.sizeOf60, Try.isAgg60, Try.zeroValue60, Try.underlying57, Try.runUnderlying57, Try.sizeOf57, Try.isAgg57, Try.zeroValue57, Try.underlying55, Try.runUnderlying55, Try.sizeOf55, Try.isAgg55, Try.zeroValue55, Try.underlying79, Try.runUnderlying79, Try.sizeOf79, Try.isAgg79, Try.zeroValue79, Try.underlying58, Try.runUnderlying58, Try.sizeOf58, Try.isAgg58, Try.zeroValue58, Try.underlying80, Try.runUnderlying80, Try.sizeOf80, Try.isAgg80, Try.zeroValue80, Try.underlying88, Try.runUnderlying88, Try.sizeOf88, Try.isAgg88, Try.zeroValue88, Try.underlying90, Try.runUnderlying90, Try.sizeOf90, Try.isAgg90, Try.zeroValue90, Try.underlying0, Try.runUnderlying0, Try.sizeOf0, Try.isAgg0, Try.zeroValue0, Try.underlying3, Try.runUnderlying3, Try.sizeOf3, Try.isAgg3, Try.zeroValue3, Try.underlying4, Try.runUnderlying4, Try.sizeOf4, Try.isAgg4, Try.zeroValue4, Try.underlying9, Try.runUnderlying9, Try.sizeOf9, Try.isAgg9, Try.zeroValue9, Try.underlying20, Try.runUnderlying20, Try.sizeOf20, Try.isAgg20, Try.zeroValue20, Try.underlying21, Try.runUnderlying21, Try.sizeOf21, Try.isAgg21, Try.zeroValue21, by kernel_rfl, by kernel_rfl⟩
end Go.Proofs.Ytkbfcaaihellfaa

/- Workers with lanes and their starter: WHAT HOLDS AT EVERY MOMENT up to the door of Wait: whose each block is; the trace; where each stands. No program in sight. -/
namespace Go.Proofs.Ytkbfcaaihellfaa
open Go.Conc Go.ConcN
open Go.ConcR (KK wgBlock WgAt stA smA rd wr mk Payload Aside2 DC0 Bk g_of_ofEvents)
set_option linter.unusedVariables false
set_option linter.unusedSectionVars false

/-- Whose a block is: the starter's · nobody writes it · a lane · the group's · not made yet · worker i's -/
inductive Ow where
  | mn | st | ln | wg | fr
  | wk (i : Nat)

def OwnF (X : Nat → Wk) (k : Nat) (l : Loc) : Prop := 1 ≤ k ∧ l.isMemory = true ∧ (X (k - 1)).M (blk l)
def RdF (X : Nat → Wk) (k : Nat) (l : Loc) : Prop := 1 ≤ k ∧ ((l.isMemory = true ∧ (X (k - 1)).S (blk l)) ∨ l = .obj (X (k - 1)).c)

/-- a row of variables -/
def IsRow (w : World) (b : Nat) : Prop := ∃ c t f, w.heap[b]? = some (.cells c t f)
theorem IsRow.of {w w' : World} {b : Nat} (h : IsRow w b) (e : w'.heap[b]? = w.heap[b]?) : IsRow w' b := by
  obtain ⟨c, t, f, h⟩ := h
  exact ⟨c, t, f, e.trans h⟩
/-- It has said its release; behind it nothing of its own that counts, and it touches the group's block alone. -/
structure RelS (Wg : Nat) (t : Trace) (k r : Nat) : Prop where
  by_ : RelBy (stA Wg) t k r
  aft : ∀ p, r < p → t.g? p = some k → ∀ a, touchAt t p = some a → blk a.loc = Wg
section
variable {Wg k r g : Nat} {t u : Trace}
theorem RelS.grow (h : RelS Wg t k r) (hb : RelBy (stA Wg) (t ++ u) k r) (hu : ∀ op ∈ u, op.g = k → ∀ a, op.act.touch? = some a → blk a.loc = Wg) : RelS Wg (t ++ u) k r := by
  refine ⟨hb, fun p hp hg a ha => ?_⟩
  obtain ⟨op, ho, rfl⟩ := Option.map_eq_some_iff.1 hg
  have hx : op.act.touch? = some a := by rw [← touchAt_of ho]; exact ha
  rcases getElem?_append_cases ho with ⟨_, ho'⟩ | ⟨_, hou⟩
  · exact h.aft p hp (by simp [Trace.g?, ho']) a (by rw [touchAt_of ho']; exact hx)
  · exact hu op hou rfl a hx
theorem RelS.appNot (h : RelS Wg t k r) (hu : ∀ op ∈ u, op.g ≠ k) : RelS Wg (t ++ u) k r := h.grow (h.by_.appNot hu) fun op hop e => absurd e (hu op hop)
theorem RelS.appOther (h : RelS Wg t k r) (hu : ∀ op ∈ u, op.g = g) (hg : g ≠ k) : RelS Wg (t ++ u) k r := h.appNot fun op hop => by rw [hu op hop]; exact hg
theorem RelS.appMute (h : RelS Wg t k r) (hu : ∀ op ∈ u, op.act.touch? = none) : RelS Wg (t ++ u) k r :=
  h.grow (h.by_.app fun p hp hg hcn => by
    obtain ⟨x, hx, _⟩ := hcn
    obtain ⟨y, hy, hya⟩ := touch_of hx
    rcases getElem?_append_cases hy with ⟨hlt, _⟩ | ⟨_, hyu⟩
    · omega
    · rw [hu y hyu] at hya; cases hya) fun op hop _ a ha => by rw [hu op hop] at ha; cases ha
theorem RelS.book {d : Nat} (h : RelS Wg t k r) (hdk : Deaf t k = d) (fn : FuncId) (pos : String) {es : Array Event} (hes : ∀ e ∈ es, Bk Wg e) (hno : ∀ j e, es[j]? = some e → (MemAct.ofEvent e).touch? = none ∨ 0 < deafBehind d (es.extract 0 j)) :
    RelS Wg (t ++ MemOp.ofEvents k fn pos es) k r :=
  h.grow (h.by_.book hdk fn pos hes hno) fun op hop _ a ha => by
    obtain ⟨e, he, rfl⟩ := Go.Conc.mem_ofEvents hop
    rcases hes e he with h1 | h1 | ⟨b, wr, rfl, hb⟩
    · rw [Go.ConcR.ofEvent_loc_mark h1] at ha; cases ha
    · rw [Go.ConcR.ofEvent_loc_mark h1] at ha; cases ha
    · simp [MemAct.ofEvent, MemAct.touch?] at ha
      subst ha
      exact hb
theorem RelS.new (hd : Deaf t k = 0) (fn : FuncId) (pos : String) : RelS Wg (t ++ MemOp.ofEvents k fn pos #[Go.ConcR.mk (.releaseMerge (stA Wg))]) k t.size := by
  refine ⟨RelBy.new hd fn pos, fun p hp hg a ha => ?_⟩
  have := lt_of_g? hg
  have e : (MemOp.ofEvents k fn pos #[Go.ConcR.mk (.releaseMerge (stA Wg))]).size = 1 := by rw [ofEvents_eq]; simp
  simp [e] at this
  omega
end

section
variable [Payload] (P : Program) (Sb : Nat → Prop) (ty : TypeId) (Wg C n LW : Nat) (Rw : List Int → Nat → Obj → Value → Prop)

/-- Whose is what. -/
structure OwnG (j : Nat) (w : World) (X : Nat → Wk) (M0 S0 : Nat → Prop) (ow : Nat → Ow) : Prop where
  m : ∀ i, i < j → ∀ b, (X i).M b ↔ ow b = .wk i
  m0 : ∀ b, M0 b ↔ ow b = .mn
  s0 : ∀ b, S0 b → ow b = .st
  s : ∀ i, i < j → ∀ b, (X i).S b → ow b = .st ∧ b ≠ C
  c : ∀ i, i < j → ow (X i).c = .ln
  cc : ∀ i i', i < j → i' < j → (X i).c = (X i').c → i = i'
  wg : ow Wg = .wg
  wg1 : ∀ b, ow b = .wg → b = Wg
  cst : ow C = .st
  fr : ∀ b, w.heap.size ≤ b ↔ ow b = .fr
  low : ∀ b, b < LW → b ≠ Wg → ow b = .st
  wk : ∀ i b, ow b = .wk i → i < j
  out : ∀ i, j ≤ i → (∀ b, ¬ (X i).M b ∧ ¬ (X i).S b) ∧ (X i).c = Wg
  sbl : ∀ b, Sb b → b < LW ∧ b ≠ Wg ∧ b ≠ C
  shs : ∀ b, S0 b → ¬ Sb b
  shw : ∀ i, i < j → ∀ b, (X i).S b → ¬ Sb b
  sbc : ∀ b, Sb b → IsRow w b
/-- What holds, whoever stands where. -/
structure Base (j : Nat) (gs : Array Goroutine) (w : World) (t : Trace) (X : Nat → Wk) (d0 : Nat) : Prop where
  size : gs.size = j + 1
  wk : ∀ i, i < j → ∃ g, gs[i + 1]? = some g ∧ WOk P ty Wg C n LW Rw (i + 1) (X i) g w
  ct : CT (ShN Wg) (OwnF X) (RdF X) t j
  low : ∀ i a, touchAt t i = some a → a.loc.isMemory = true → blk a.loc < w.heap.size
  norel : NoRelease (stA Wg) t
  deaf0 : Deaf t 0 = d0
  deafW : ∀ i, i < j → Deaf t (i + 1) = (X i).d
  rel : ∀ i, i < j → (X i).st ≤ 6 → ∃ r, RelS Wg t (i + 1) r
  has : ∀ i, i < j → Has C i (.chan (some (X i).c)) w
  pay : PayAt C n w
  ch : ∀ i, i < j → ∃ s, w.heap[(X i).c]? = some (.chan 0 #[] (decide ((X i).st ≤ 7)) s s false)
  low7 : ∀ i, i < j → (X i).st = 9 ∨ (X i).st = 8 ∨ (X i).st = 7 ∨ (X i).st = 6 ∨ (X i).st = 5 ∨ (X i).st = 1

variable {P Sb ty Wg C n LW Rw}
section
variable {j : Nat} {gs : Array Goroutine} {w w' : World} {t u : Trace} {X : Nat → Wk} {M0 S0 : Nat → Prop} {ow : Nat → Ow} {d0 : Nat}

theorem OwnG.hm (O : OwnG Sb Wg C LW j w X M0 S0 ow) {i b : Nat} (h : (X i).M b) : ow b = .wk i := by
  rcases Nat.lt_or_ge i j with hi | hi
  · exact (O.m i hi b).1 h
  · exact absurd h ((O.out i hi).1 b).1
theorem OwnG.hs (O : OwnG Sb Wg C LW j w X M0 S0 ow) {i b : Nat} (h : (X i).S b) : ow b = .st := by
  rcases Nat.lt_or_ge i j with hi | hi
  · exact (O.s i hi b h).1
  · exact absurd h ((O.out i hi).1 b).2
theorem OwnG.hc (O : OwnG Sb Wg C LW j w X M0 S0 ow) (i : Nat) : ow (X i).c = .ln ∨ ow (X i).c = .wg := by
  rcases Nat.lt_or_ge i j with hi | hi
  · exact .inl (O.c i hi)
  · exact .inr (by rw [(O.out i hi).2]; exact O.wg)
theorem shn_blk {l : Loc} (h : ShN Wg l) : blk l = Wg := by obtain ⟨a, rfl, ha⟩ := h; exact ha
theorem OwnG.apart (O : OwnG Sb Wg C LW j w X M0 S0 ow) : Apart (ShN Wg) (OwnF X) (RdF X) := by
  refine ⟨fun k k' l h h' => ?_, fun k k' l h h' => ?_, fun k l h hs => ?_, fun k l h hs => ?_⟩
  · have h1 := O.hm h.2.2
    have h2 := O.hm h'.2.2
    rw [h1] at h2
    have := Ow.wk.inj h2
    have := h.1
    have := h'.1
    omega
  · have h1 := O.hm h.2.2
    rcases h'.2 with ⟨_, h2⟩ | rfl
    · rw [O.hs h2] at h1; cases h1
    · rcases O.hc (k' - 1) with h2 | h2 <;> (rw [show blk (.obj (X (k' - 1)).c) = (X (k' - 1)).c from rfl, h2] at h1; cases h1)
  · have h1 := O.hm h.2.2
    rw [shn_blk hs, O.wg] at h1; cases h1
  · rcases h.2 with ⟨_, h2⟩ | rfl
    · have := O.hs h2
      rw [shn_blk hs, O.wg] at this; cases this
    · obtain ⟨a, e, _⟩ := hs; cases e
/-- A step that leaves worker i's blocks and the still ones: what worker i suffers. -/
theorem OwnG.ra (O : OwnG Sb Wg C LW j w X M0 S0 ow) {i : Nat} (hi : i < j) (hk : ∀ b, (ow b = .wk i ∨ ow b = .st) → w'.heap[b]? = w.heap[b]?) (hsz : w.heap.size ≤ w'.heap.size) (hl : WgLive ty Wg w → WgLive ty Wg w') :
    RA ty Wg C n LW (i + 1) (X i) w w' := by
  have hC := hk C (.inr O.cst)
  refine ⟨⟨fun b hb => hk b (hb.imp O.hm O.hs), hsz, hl⟩, ⟨fun b h1 h2 h3 => hk b (.inr (O.low b h1 h2)), hl, fun ⟨cs, hc, hn⟩ => ⟨cs, hC.trans hc, hn⟩, cell_of_block hC _⟩⟩
/-- .. what the starter suffers. -/
theorem OwnG.rm0 (O : OwnG Sb Wg C LW j w X M0 S0 ow) (hk : ∀ b, (ow b = .mn ∨ ow b = .st) → w'.heap[b]? = w.heap[b]?) (hsz : w.heap.size ≤ w'.heap.size) (hl : WgLive ty Wg w → WgLive ty Wg w') : RM ty Wg (fun b => M0 b ∨ S0 b) w w' :=
  ⟨fun b hb => hk b (hb.imp (O.m0 b).1 (O.s0 b)), hsz, hl⟩
theorem live_of (hb : w'.heap[Wg]? = w.heap[Wg]?) : WgLive ty Wg w → WgLive ty Wg w' := fun ⟨st, sm, h⟩ => ⟨st, sm, h.of_block hb⟩
theorem OwnG.lt (O : OwnG Sb Wg C LW j w X M0 S0 ow) {b : Nat} (h : ow b ≠ .fr) : b < w.heap.size := Nat.lt_of_not_le fun e => h ((O.fr b).1 e)

theorem touch_evM {M S : Nat → Prop} {e : Event} (h : EvM M S e) {x : Touch} (hx : (MemAct.ofEvent e).touch? = some x) : x.loc.isMemory = true ∧ True ∧ (M (blk x.loc) ∨ (S (blk x.loc) ∧ x.write = false)) := by
  obtain ⟨loc, wr, sy⟩ := e
  rcases h with ⟨a, rfl, h3⟩ | ⟨r, rfl, rfl, h3⟩ | h
  · have : ∃ kd, (MemAct.ofEvent ⟨.cell a, wr, sy⟩).touch? = some ⟨.cell a, wr, kd⟩ := by cases wr <;> cases sy <;> exact ⟨_, rfl⟩
    obtain ⟨kd, this⟩ := this
    rw [this] at hx
    cases hx
    exact ⟨rfl, trivial, h3⟩
  · have : (MemAct.ofEvent ⟨.obj r, wr, false⟩).touch? = some ⟨.obj r, wr, .plain⟩ := by cases wr <;> rfl
    rw [this] at hx
    cases hx
    exact ⟨rfl, trivial, .inl h3⟩
  · cases h; cases hx
theorem mem_ofEvents {g : Nat} {fn : FuncId} {pos : String} {es : Array Event} {op : MemOp} (h : op ∈ MemOp.ofEvents g fn pos es) : op.g = g ∧ ∃ e ∈ es, op.act = .ofEvent e := by
  unfold MemOp.ofEvents at h
  split at h
  · simp at h
  · obtain ⟨e, he, rfl⟩ := Array.mem_map.1 h
    exact ⟨rfl, e, he, rfl⟩
theorem OwnG.okW (O : OwnG Sb Wg C LW j w X M0 S0 ow) {i : Nat} {fn : FuncId} {pos : String} {es : Array Event} (hes : ∀ e ∈ es, EvM (X i).M (X i).S e) : ∀ op ∈ MemOp.ofEvents (i + 1) fn pos es, OkW (ShN Wg) (OwnF X) (RdF X) (i + 1) op := by
  intro op hop
  obtain ⟨h1, e, he, ha⟩ := mem_ofEvents hop
  refine ⟨h1, fun x hx => ?_⟩
  rw [ha] at hx
  obtain ⟨h2, h3, h4⟩ := touch_evM (hes e he) hx
  rcases h4 with h4 | ⟨h4, h5⟩
  · exact .inr (.inl ⟨by omega, h2, h4⟩)
  · exact .inr (.inr ⟨⟨by omega, .inl ⟨h2, h4⟩⟩, h5⟩)
theorem OwnG.ok0 (O : OwnG Sb Wg C LW j w X M0 S0 ow) {fn : FuncId} {pos : String} {es : Array Event} (hes : ∀ e ∈ es, EvM M0 S0 e) : ∀ op ∈ MemOp.ofEvents 0 fn pos es, Ok0 (ShN Wg) (OwnF X) (RdF X) j op := by
  intro op hop
  obtain ⟨h1, e, he, ha⟩ := mem_ofEvents hop
  refine ⟨h1, fun x hx => .inr ?_⟩
  rw [ha] at hx
  obtain ⟨h2, h3, h4⟩ := touch_evM (hes e he) hx
  have h5 : ow (blk x.loc) = .mn ∨ ow (blk x.loc) = .st := h4.imp (O.m0 _).1 fun h => O.s0 _ h.1
  refine ⟨fun hs => (by rw [shn_blk hs, O.wg] at h5; rcases h5 with h | h <;> cases h), fun k _ _ ho => (by rw [O.hm ho.2.2] at h5; rcases h5 with h | h <;> cases h), fun hw k _ _ hr => ?_⟩
  have h6 : ow (blk x.loc) = .mn := (O.m0 _).1 (h4.elim id fun h => by rw [h.2] at hw; cases hw)
  rcases hr.2 with ⟨_, h7⟩ | h7
  · rw [O.hs h7] at h6; cases h6
  · rw [h7] at h6
    rcases O.hc (k - 1) with h8 | h8 <;> (rw [show blk (.obj (X (k - 1)).c) = (X (k - 1)).c from rfl, h8] at h6; cases h6)
theorem OwnG.stn (O : OwnG Sb Wg C LW j w X M0 S0 ow) {b : Nat} (h : Sb b) : ow b = .st := O.low b (O.sbl b h).1 (O.sbl b h).2.1
/-- Only still blocks of before are shunned. -/
theorem OwnG.shn (O : OwnG Sb Wg C LW j w X M0 S0 ow) {b : Nat} (h : ow b ≠ .st) : ¬ Sb b := fun hb => h (O.low b (O.sbl b hb).1 (O.sbl b hb).2.1)
theorem OwnG.shy_okW (O : OwnG Sb Wg C LW j w X M0 S0 ow) {k : Nat} {fn : FuncId} {pos : String} {es : Array Event} (hk : k < j) (hok : ∀ op ∈ MemOp.ofEvents (k + 1) fn pos es, OkW (ShN Wg) (OwnF X) (RdF X) (k + 1) op) : ∀ e ∈ es, Shy Sb e := fun e he x hx hb => by
  have hop : ({ g := k + 1, fn, pos, act := .ofEvent e } : MemOp) ∈ MemOp.ofEvents (k + 1) fn pos es := by rw [ofEvents_eq]; exact Array.mem_map.2 ⟨e, he, rfl⟩
  rcases (hok _ hop).2 x hx with ⟨_, h, _⟩ | h | ⟨h, _⟩
  · exact h
  · exact absurd hb.2 (O.shn (by rw [O.hm h.2.2]; exact Ow.noConfusion))
  · rcases h.2 with ⟨_, h⟩ | h
    · exact absurd hb.2 (O.shw k hk _ h)
    · rw [h] at hb
      exact absurd hb.2 (O.shn (by rw [show blk (.obj (X (k + 1 - 1)).c) = (X k).c from rfl, O.c k hk]; exact Ow.noConfusion))
theorem shy_evM {M S : Nat → Prop} {e : Event} (h : EvM M S e) (hM : ∀ b, M b → ¬ Sb b) (hS : ∀ b, S b → ¬ Sb b) : Shy Sb e := fun x hx hb => by
  obtain ⟨_, _, h | h⟩ := touch_evM h hx
  · exact absurd hb.2 (hM _ h)
  · exact absurd hb.2 (hS _ h.1)
theorem OwnG.shy0 (O : OwnG Sb Wg C LW j w X M0 S0 ow) {e : Event} (h : EvM M0 S0 e) : Shy Sb e := shy_evM h (fun b hb => O.shn (by rw [(O.m0 b).1 hb]; exact Ow.noConfusion)) O.shs
theorem low_app (hl : ∀ i a, touchAt t i = some a → a.loc.isMemory = true → blk a.loc < w.heap.size) (hsz : w.heap.size ≤ w'.heap.size) (hu : ∀ op ∈ u, ∀ x, op.act.touch? = some x → x.loc.isMemory = true → blk x.loc < w'.heap.size) :
    ∀ i a, touchAt (t ++ u) i = some a → a.loc.isMemory = true → blk a.loc < w'.heap.size := fun i a ha hm => by
  obtain ⟨x, hx, hxa⟩ := touch_of ha
  rcases getElem?_append_cases hx with ⟨_, hx'⟩ | ⟨_, hxu⟩
  · exact Nat.lt_of_lt_of_le (hl i a (by rw [touchAt_of hx']; exact hxa) hm) hsz
  · exact hu x hxu a hxa hm
theorem norel_evM {M S : Nat → Prop} {g : Nat} {fn : FuncId} {pos : String} {es : Array Event} (hes : ∀ e ∈ es, EvM M S e) : ∀ op ∈ MemOp.ofEvents g fn pos es, op.act ≠ .mark (.release (stA Wg)) := by
  intro op hop
  obtain ⟨_, e, he, ha⟩ := mem_ofEvents hop
  rw [ha]
  obtain ⟨loc, wr, sy⟩ := e
  rcases hes _ he with ⟨a, rfl, _⟩ | ⟨r, rfl, rfl, _⟩ | h
  · cases wr <;> cases sy <;> simp [MemAct.ofEvent]
  · cases wr <;> simp [MemAct.ofEvent]
  · cases h; simp [MemAct.ofEvent]
theorem deaf_evM {M S : Nat → Prop} {es : Array Event} (hes : ∀ e ∈ es, EvM M S e) (d : Nat) : deafBehind d es = d := by
  unfold deafBehind
  rw [← Array.foldl_toList]
  have : ∀ (l : List Event), (∀ e ∈ l, EvM M S e) → ∀ d, l.foldl (fun d e => match e.loc with | .mark .disable => d + 1 | .mark .enable => d - 1 | _ => d) d = d := by
    intro l
    induction l with
    | nil => intro _ d; rfl
    | cons e l ih =>
      intro h d
      rw [List.foldl_cons]
      rcases h e (by simp) with ⟨a, ha, _⟩ | ⟨r, hr, _⟩ | rfl
      · rw [ha]; exact ih (fun e he => h e (by simp [he])) d
      · rw [hr]; exact ih (fun e he => h e (by simp [he])) d
      · exact ih (fun e he => h e (by simp [he])) d
  exact this _ (fun e he => hes e (by simpa using he)) d
end
end

end Go.Proofs.Ytkbfcaaihellfaa

/- Workers with lanes and their starter: a private step of a worker's, a private step of the starter's. No program in sight. -/
namespace Go.Proofs.Ytkbfcaaihellfaa
open Go.Conc Go.ConcN
open Go.ConcR (KK wgBlock WgAt stA smA rd wr mk Payload Aside2 DC0 Bk g_of_ofEvents)
set_option linter.unusedVariables false
set_option linter.unusedSectionVars false

def owNew (ow : Nat → Ow) (a b : Nat) (o : Ow) : Nat → Ow := fun x => if a ≤ x ∧ x < b then o else ow x
theorem owNew_in {ow : Nat → Ow} {a b x : Nat} {o : Ow} (h : a ≤ x ∧ x < b) : owNew ow a b o x = o := if_pos h
theorem owNew_out {ow : Nat → Ow} {a b x : Nat} {o : Ow} (h : ¬ (a ≤ x ∧ x < b)) : owNew ow a b o x = ow x := if_neg h

section
variable [Payload] {P : Program} {Sb : Nat → Prop} {ty : TypeId} {Wg C n LW : Nat} {Rw : List Int → Nat → Obj → Value → Prop}
variable {j : Nat} {gs : Array Goroutine} {w w' : World} {t u : Trace} {X : Nat → Wk} {M0 S0 : Nat → Prop} {ow : Nat → Ow} {d0 : Nat}

/-- A step that leaves alone all that is not worker i's: memory may have grown. -/
structure Pvt (ow : Nat → Ow) (o : Ow) (w w' : World) : Prop where
  keep : ∀ b, ow b ≠ o → b < w.heap.size → w'.heap[b]? = w.heap[b]?
  size : w.heap.size ≤ w'.heap.size
theorem OwnG.pvtLive (O : OwnG Sb Wg C LW j w X M0 S0 ow) {o : Ow} (ho : o ≠ .wg) (hp : Pvt ow o w w') : WgLive ty Wg w → WgLive ty Wg w' :=
  live_of (hp.keep Wg (by rw [O.wg]; exact fun e => ho e.symm) (O.lt (by rw [O.wg]; exact Ow.noConfusion)))
theorem OwnG.pvtKeep (O : OwnG Sb Wg C LW j w X M0 S0 ow) {o : Ow} (hp : Pvt ow o w w') {b : Nat} (h1 : ow b ≠ o) (h2 : ow b ≠ .fr) : w'.heap[b]? = w.heap[b]? := hp.keep b h1 (O.lt h2)

/-- Whose is what, behind a step by which worker i's blocks may have grown in number. -/
theorem OwnG.newW (O : OwnG Sb Wg C LW j w X M0 S0 ow) {i : Nat} (hi : i < j) (hsz : w.heap.size ≤ w'.heap.size) {x' : Wk} (hc : x'.c = (X i).c) (hS : x'.S = (X i).S) (hM : ∀ b, x'.M b ↔ (X i).M b ∨ (w.heap.size ≤ b ∧ b < w'.heap.size)) (hk : ∀ b, Sb b → w'.heap[b]? = w.heap[b]?) :
    OwnG Sb Wg C LW j w' (upd X i x') M0 S0 (owNew ow w.heap.size w'.heap.size (.wk i)) := by
  have old : ∀ {b}, ow b ≠ .fr → owNew ow w.heap.size w'.heap.size (.wk i) b = ow b := fun {b} h => owNew_out fun e => h ((O.fr b).1 e.1)
  have hu : ∀ i' b, (upd X i x' i').S b → (X i').S b := fun i' b h => by
    by_cases e : i' = i
    · subst e; rw [upd_same, hS] at h; exact h
    · rwa [upd_ne X x' e] at h
  have hcu : ∀ i', (upd X i x' i').c = (X i').c := fun i' => by
    by_cases e : i' = i
    · subst e; rw [upd_same, hc]
    · rw [upd_ne X x' e]
  have new : ∀ b, w.heap.size ≤ b → ow b = .fr := fun b h => (O.fr b).1 h
  refine ⟨fun i' hi' b => ?_, fun b => ?_, fun b h => ?_, fun i' hi' b h => ?_, fun i' hi' => ?_, fun i' i'' h1 h2 h3 => ?_, ?_, fun b h => ?_, ?_, fun b => ?_, fun b h1 h2 => ?_, fun i' b h => ?_, fun i' hi' => ?_, O.sbl, O.shs, fun i' hi' b h => O.shw i' hi' b (hu i' b h), fun b hb => (O.sbc b hb).of (hk b hb)⟩
  · by_cases hb : w.heap.size ≤ b ∧ b < w'.heap.size
    · rw [owNew_in hb]
      by_cases e : i' = i
      · subst e; rw [upd_same, hM]; exact ⟨fun _ => rfl, fun _ => .inr hb⟩
      · rw [upd_ne X x' e, O.m i' hi', new b hb.1]
        exact ⟨fun h => (by cases h), fun h => absurd (Ow.wk.inj h).symm e⟩
    · rw [owNew_out hb, ← O.m i' hi']
      by_cases e : i' = i
      · subst e; rw [upd_same, hM]; exact ⟨fun h => h.resolve_right hb, .inl⟩
      · rw [upd_ne X x' e]
  · rw [O.m0]
    by_cases hb : w.heap.size ≤ b ∧ b < w'.heap.size
    · rw [owNew_in hb, new b hb.1]; exact ⟨fun h => (by cases h), fun h => (by cases h)⟩
    · rw [owNew_out hb]
  · have := O.s0 b h
    rw [old (by rw [this]; exact Ow.noConfusion), this]
  · have := O.s i' hi' b (hu i' b h)
    rw [old (by rw [this.1]; exact Ow.noConfusion)]; exact this
  · rw [hcu, old (by rw [O.c i' hi']; exact Ow.noConfusion), O.c i' hi']
  · rw [hcu, hcu] at h3; exact O.cc i' i'' h1 h2 h3
  · rw [old (by rw [O.wg]; exact Ow.noConfusion), O.wg]
  · by_cases hb : w.heap.size ≤ b ∧ b < w'.heap.size
    · rw [owNew_in hb] at h; cases h
    · rw [owNew_out hb] at h; exact O.wg1 b h
  · rw [old (by rw [O.cst]; exact Ow.noConfusion), O.cst]
  · by_cases hb : w.heap.size ≤ b ∧ b < w'.heap.size
    · rw [owNew_in hb]; exact ⟨fun h => absurd hb.2 (by omega), fun h => (by cases h)⟩
    · rw [owNew_out hb, ← O.fr]; omega
  · have := O.low b h1 h2
    rw [old (by rw [this]; exact Ow.noConfusion), this]
  · by_cases hb : w.heap.size ≤ b ∧ b < w'.heap.size
    · rw [owNew_in hb] at h; have := Ow.wk.inj h; omega
    · rw [owNew_out hb] at h; exact O.wk i' b h
  · rw [upd_ne X x' (by omega)]; exact O.out i' hi'
/-- .. by which the starter's may have. -/
theorem OwnG.new0 (O : OwnG Sb Wg C LW j w X M0 S0 ow) (hsz : w.heap.size ≤ w'.heap.size) (hk : ∀ b, Sb b → w'.heap[b]? = w.heap[b]?) : OwnG Sb Wg C LW j w' X (fun b => M0 b ∨ (w.heap.size ≤ b ∧ b < w'.heap.size)) S0 (owNew ow w.heap.size w'.heap.size .mn) := by
  have old : ∀ {b}, ow b ≠ .fr → owNew ow w.heap.size w'.heap.size .mn b = ow b := fun {b} h => owNew_out fun e => h ((O.fr b).1 e.1)
  have new : ∀ b, w.heap.size ≤ b → ow b = .fr := fun b h => (O.fr b).1 h
  refine ⟨fun i' hi' b => ?_, fun b => ?_, fun b h => ?_, fun i' hi' b h => ?_, fun i' hi' => ?_, O.cc, ?_, fun b h => ?_, ?_, fun b => ?_, fun b h1 h2 => ?_, fun i' b h => ?_, O.out, O.sbl, O.shs, O.shw, fun b hb => (O.sbc b hb).of (hk b hb)⟩
  · rw [O.m i' hi']
    by_cases hb : w.heap.size ≤ b ∧ b < w'.heap.size
    · rw [owNew_in hb, new b hb.1]; exact ⟨fun h => (by cases h), fun h => (by cases h)⟩
    · rw [owNew_out hb]
  · by_cases hb : w.heap.size ≤ b ∧ b < w'.heap.size
    · rw [owNew_in hb]; exact ⟨fun _ => rfl, fun _ => .inr hb⟩
    · rw [owNew_out hb, O.m0 b |>.symm]; exact ⟨fun h => h.resolve_right hb, .inl⟩
  · have := O.s0 b h
    rw [old (by rw [this]; exact Ow.noConfusion), this]
  · have := O.s i' hi' b h
    rw [old (by rw [this.1]; exact Ow.noConfusion)]; exact this
  · rw [old (by rw [O.c i' hi']; exact Ow.noConfusion), O.c i' hi']
  · rw [old (by rw [O.wg]; exact Ow.noConfusion), O.wg]
  · by_cases hb : w.heap.size ≤ b ∧ b < w'.heap.size
    · rw [owNew_in hb] at h; cases h
    · rw [owNew_out hb] at h; exact O.wg1 b h
  · rw [old (by rw [O.cst]; exact Ow.noConfusion), O.cst]
  · by_cases hb : w.heap.size ≤ b ∧ b < w'.heap.size
    · rw [owNew_in hb]; exact ⟨fun h => absurd hb.2 (by omega), fun h => (by cases h)⟩
    · rw [owNew_out hb, ← O.fr]; omega
  · have := O.low b h1 h2
    rw [old (by rw [this]; exact Ow.noConfusion), this]
  · by_cases hb : w.heap.size ≤ b ∧ b < w'.heap.size
    · rw [owNew_in hb] at h; cases h
    · rw [owNew_out hb] at h; exact O.wk i' b h

/-- The other workers under a step of somebody's. -/
theorem Base.others (B : Base P ty Wg C n LW Rw j gs w t X d0) (O : OwnG Sb Wg C LW j w X M0 S0 ow) {a : Nat} {g g' : Goroutine} {i' : Nat} (hi' : i' < j) (hne : i' + 1 ≠ a)
    (hr : RA ty Wg C n LW (i' + 1) (X i') w w') (hch : w'.heap[(X i').c]? = w.heap[(X i').c]?) : ∃ x, ((gs.map (woken P g g' w')).setIfInBounds a g')[i' + 1]? = some x ∧ WOk P ty Wg C n LW Rw (i' + 1) (X i') x w' := by
  obtain ⟨x, hx, hsx⟩ := B.wk i' hi'
  refine ⟨x, ?_, hsx.rely hr⟩
  rw [get_map_set _ _ _ _ (fun e => hne e.symm), hx, Option.map_some, hsx.woken (fun h8 => ?_)]
  obtain ⟨s, hs⟩ := B.ch i' hi'
  rw [h8] at hs
  exact ⟨_, _, _, _, _, hch.trans hs⟩

theorem Base.stepW (B : Base P ty Wg C n LW Rw j gs w t X d0) (O : OwnG Sb Wg C LW j w X M0 S0 ow) {i : Nat} (hi : i < j) (h9 : 7 ≤ (X i).st) (hd9 : (X i).d = 0) {g g' : Goroutine} {fn : FuncId} {pos : String} {es : Array Event} (hp : Pvt ow (.wk i) w w')
    (hes : ∀ e ∈ es, EvM (X i).M (X i).S e) {x' : Wk} (hx : WOk P ty Wg C n LW Rw (i + 1) x' g' w') (hc : x'.c = (X i).c) (hS : x'.S = (X i).S) (hM : ∀ b, x'.M b ↔ (X i).M b ∨ (w.heap.size ≤ b ∧ b < w'.heap.size)) (h9' : x'.st = (X i).st) (hd' : x'.d = 0) :
    Base P ty Wg C n LW Rw j ((gs.map (woken P g g' w')).setIfInBounds (i + 1) g') w' (t ++ MemOp.ofEvents (i + 1) fn pos es) (upd X i x') d0 := by
  have kp : ∀ {b}, ow b ≠ .wk i → ow b ≠ .fr → w'.heap[b]? = w.heap[b]? := fun h1 h2 => O.pvtKeep hp h1 h2
  have hC : w'.heap[C]? = w.heap[C]? := kp (by rw [O.cst]; exact Ow.noConfusion) (by rw [O.cst]; exact Ow.noConfusion)
  have hch : ∀ i', i' < j → w'.heap[(X i').c]? = w.heap[(X i').c]? := fun i' hi' => kp (by rw [O.c i' hi']; exact Ow.noConfusion) (by rw [O.c i' hi']; exact Ow.noConfusion)
  have hst : ∀ i', (upd X i x' i').st = (X i').st := fun i' => by
    by_cases e : i' = i
    · subst e; rw [upd_same, h9']
    · rw [upd_ne X x' e]
  have hcu : ∀ i', (upd X i x' i').c = (X i').c := fun i' => by
    by_cases e : i' = i
    · subst e; rw [upd_same, hc]
    · rw [upd_ne X x' e]
  have ct1 := B.ct.appW O.apart (k := i + 1) (by omega) (by omega) (O.okW (fn := fn) (pos := pos) hes)
  have lo1 := low_app (u := MemOp.ofEvents (i + 1) fn pos es) (w' := w) B.low (Nat.le_refl _) (fun op hop x hx hm => by
    obtain ⟨_, e, he, ha⟩ := mem_ofEvents hop
    rw [ha] at hx
    obtain ⟨_, _, h4⟩ := touch_evM (hes e he) hx
    rcases h4 with h4 | ⟨h4, _⟩
    · exact O.lt (by rw [O.hm h4]; exact Ow.noConfusion)
    · exact O.lt (by rw [O.hs h4]; exact Ow.noConfusion))
  refine ⟨by simp [B.size], fun i' hi' => ?_, ?_, fun a x hx hm => Nat.lt_of_lt_of_le (lo1 a x hx hm) hp.size, B.norel.app (norel_evM hes), by rw [Deaf_other t (by omega) _ g_of_ofEvents, B.deaf0], fun i' hi' => ?_, fun i' hi' hs => ?_, fun i' hi' => ?_,
    (let ⟨cs, h1, h2⟩ := B.pay; ⟨cs, hC.trans h1, h2⟩), fun i' hi' => ?_, fun i' hi' => by rw [hst]; exact B.low7 i' hi'⟩
  · by_cases e : i' = i
    · subst e
      exact ⟨g', get_map_set_same _ _ _ (by rw [B.size]; omega), by rw [upd_same]; exact hx⟩
    · rw [upd_ne X x' e]
      exact B.others O hi' (by omega) (O.ra hi' (fun b hb => kp (hb.elim (fun hb => by rw [hb]; exact fun h => e (Ow.wk.inj h)) (fun hb => by rw [hb]; exact Ow.noConfusion)) (by rcases hb with hb | hb <;> rw [hb] <;> exact Ow.noConfusion)) hp.size (O.pvtLive Ow.noConfusion hp)) (hch i' hi')
  · refine ct_fresh ct1 (fun l => l.isMemory = true ∧ w.heap.size ≤ blk l) (fun a x hx hn => by have := lo1 a x hx hn.1; omega) (fun k l hl => ?_) (fun k l hl => ?_)
    · unfold OwnF
      by_cases e : k - 1 = i
      · rw [e, upd_same, hM]
        exact ⟨fun h => ⟨h.1, h.2.1, h.2.2.resolve_right fun h2 => hl ⟨h.2.1, h2.1⟩⟩, fun h => ⟨h.1, h.2.1, .inl h.2.2⟩⟩
      · rw [upd_ne X x' e]
    · unfold RdF
      by_cases e : k - 1 = i
      · rw [e, upd_same, hS, hc]
      · rw [upd_ne X x' e]
  · by_cases e : i' = i
    · subst e; rw [Deaf_own, B.deafW i' hi', upd_same, hd', hd9]; exact deaf_evM hes 0
    · rw [Deaf_other t (by omega) _ g_of_ofEvents, B.deafW i' hi', upd_ne X x' e]
  · rw [hst] at hs
    have hne : i' ≠ i := fun e => by subst e; omega
    obtain ⟨r, hr⟩ := B.rel i' hi' hs
    exact ⟨r, hr.appOther g_of_ofEvents (by omega)⟩
  · rw [hcu]; exact (cell_of_block hC i').trans (B.has i' hi')
  · rw [hcu, hst, hch i' hi']; exact B.ch i' hi'
theorem Base.step0g (B : Base P ty Wg C n LW Rw j gs w t X d0) (O : OwnG Sb Wg C LW j w X M0 S0 ow) {g g' : Goroutine} {fn : FuncId} {pos : String} {es : Array Event} (hp : Pvt ow .mn w w') (hok : ∀ op ∈ MemOp.ofEvents 0 fn pos es, Ok0 (ShN Wg) (OwnF X) (RdF X) j op)
    (hlow : ∀ op ∈ MemOp.ofEvents 0 fn pos es, ∀ y, op.act.touch? = some y → y.loc.isMemory = true → blk y.loc < w.heap.size) (hnr : ∀ op ∈ MemOp.ofEvents 0 fn pos es, op.act ≠ .mark (.release (stA Wg))) (hdf : deafBehind d0 es = d0) :
    Base P ty Wg C n LW Rw j ((gs.map (woken P g g' w')).setIfInBounds 0 g') w' (t ++ MemOp.ofEvents 0 fn pos es) X d0 := by
  have kp : ∀ {b}, ow b ≠ .mn → ow b ≠ .fr → w'.heap[b]? = w.heap[b]? := fun h1 h2 => O.pvtKeep hp h1 h2
  have hC : w'.heap[C]? = w.heap[C]? := kp (by rw [O.cst]; exact Ow.noConfusion) (by rw [O.cst]; exact Ow.noConfusion)
  have hch : ∀ i', i' < j → w'.heap[(X i').c]? = w.heap[(X i').c]? := fun i' hi' => kp (by rw [O.c i' hi']; exact Ow.noConfusion) (by rw [O.c i' hi']; exact Ow.noConfusion)
  have lo1 := low_app (u := MemOp.ofEvents 0 fn pos es) (w' := w) B.low (Nat.le_refl _) hlow
  refine ⟨by simp [B.size], fun i' hi' => ?_, B.ct.app0 O.apart hok, fun a x hx hm => Nat.lt_of_lt_of_le (lo1 a x hx hm) hp.size, B.norel.app hnr, by rw [Deaf_own, B.deaf0]; exact hdf, fun i' hi' => by rw [Deaf_other t (by omega) _ g_of_ofEvents, B.deafW i' hi'], fun i' hi' hs => ?_,
    fun i' hi' => (cell_of_block hC i').trans (B.has i' hi'), (let ⟨cs, h1, h2⟩ := B.pay; ⟨cs, hC.trans h1, h2⟩), fun i' hi' => by rw [hch i' hi']; exact B.ch i' hi', B.low7⟩
  · exact B.others O hi' (by omega) (O.ra hi' (fun b hb => kp (by rcases hb with hb | hb <;> rw [hb] <;> exact Ow.noConfusion) (by rcases hb with hb | hb <;> rw [hb] <;> exact Ow.noConfusion)) hp.size (O.pvtLive Ow.noConfusion hp)) (hch i' hi')
  · obtain ⟨r, hr⟩ := B.rel i' hi' hs
    exact ⟨r, hr.appOther g_of_ofEvents (by omega)⟩
theorem OwnG.low0 (O : OwnG Sb Wg C LW j w X M0 S0 ow) {fn : FuncId} {pos : String} {es : Array Event} (hes : ∀ e ∈ es, EvM M0 S0 e) : ∀ op ∈ MemOp.ofEvents 0 fn pos es, ∀ y, op.act.touch? = some y → y.loc.isMemory = true → blk y.loc < w.heap.size := fun op hop x hx hm => by
  obtain ⟨_, e, he, ha⟩ := mem_ofEvents hop
  rw [ha] at hx
  obtain ⟨_, _, h4⟩ := touch_evM (hes e he) hx
  rcases h4 with h4 | ⟨h4, _⟩
  · exact O.lt (by rw [(O.m0 _).1 h4]; exact Ow.noConfusion)
  · exact O.lt (by rw [O.s0 _ h4]; exact Ow.noConfusion)
end

end Go.Proofs.Ytkbfcaaihellfaa

/- Workers with lanes and their starter: where the starter stands; the invariant up to the door of Wait; its measure. No program in sight. -/
namespace Go.Proofs.Ytkbfcaaihellfaa
open Go.Conc Go.ConcN
open Go.ConcR (KK wgBlock WgAt stA smA rd wr mk Payload Aside2 DC0 Bk g_of_ofEvents)
set_option linter.unusedVariables false
set_option linter.unusedSectionVars false

structure Mn where
  todo : List (List (List Int))
  L : List (Nat × List (List Int))
  S : Nat → Prop
  M : Nat → Prop
  tag : Nat
  f : Tr
  d : Nat

section
variable [Payload] (P : Program) (ty : TypeId) (Wg C n LW : Nat) (Rw : List Int → Nat → Obj → Value → Prop) (Dr : (Nat → Prop) → (Nat → Prop) → Goroutine → World → Prop)

/-- behind the last go statement -/
def DoorR (L : List (Nat × List (List Int))) (S M : Nat → Prop) (g : Goroutine) (w : World) : Prop := MRg P ty Wg Rw S (Dr S) L M g w
/-- behind a go statement -/
def AftGo (rest : List (List (List Int))) (j : Nat) (L : List (Nat × List (List Int))) (ls : List (List Int)) (c : Nat) (S M : Nat → Prop) (g : Goroutine) (w : World) : Prop :=
  MSp P ty Wg C n LW Rw (DoorR P ty Wg Rw Dr) rest (j + 1) (L ++ [(c, ls)]) S M g w
/-- behind a lane's end -/
def AftLane (S : Nat → Prop) (rest : List (Nat × List (List Int))) (M : Nat → Prop) (g : Goroutine) (w : World) : Prop := MRg P ty Wg Rw S (Dr S) rest M g w

inductive MOk (j : Nat) : Mn → Goroutine → World → Prop
  | lane {ls : List (List Int)} {rest : List (List (List Int))} {L : List (Nat × List (List Int))} {S M : Nat → Prop} {f : Tr} {g : Goroutine} {w : World} :
      Way P true ty Wg S (StLane P ty Wg C n LW Rw S j ls (AftGo P ty Wg C n LW Rw Dr rest j L ls)) f M g w → MOk j ⟨ls :: rest, L, S, M, 9, f, 0⟩ g w
  | kd {ls : List (List Int)} {rest : List (List (List Int))} {L : List (Nat × List (List Int))} {S M : Nat → Prop} {f : Tr} {c : Nat} {g : Goroutine} {w : World} :
      Way P true ty Wg S (StKd P ty Wg C n LW Rw S j ls (AftGo P ty Wg C n LW Rw Dr rest j L ls) c) f M g w → MOk j ⟨ls :: rest, L, S, M, 8, f, 0⟩ g w
  | a1 {ls : List (List Int)} {rest : List (List (List Int))} {L : List (Nat × List (List Int))} {S M : Nat → Prop} {f : Tr} {c : Nat} {g : Goroutine} {w : World} :
      Way P true ty Wg S (StA1 P ty Wg C n LW Rw S j ls (AftGo P ty Wg C n LW Rw Dr rest j L ls) c) f M g w → MOk j ⟨ls :: rest, L, S, M, 7, f, 1⟩ g w
  | ke {ls : List (List Int)} {rest : List (List (List Int))} {L : List (Nat × List (List Int))} {S M : Nat → Prop} {f : Tr} {c : Nat} {g : Goroutine} {w : World} :
      Way P true ty Wg S (StKe P ty Wg C n LW Rw S j ls (AftGo P ty Wg C n LW Rw Dr rest j L ls) c) f M g w → MOk j ⟨ls :: rest, L, S, M, 6, f, 1⟩ g w
  | go {ls : List (List Int)} {rest : List (List (List Int))} {L : List (Nat × List (List Int))} {S M : Nat → Prop} {f : Tr} {c : Nat} {g : Goroutine} {w : World} :
      Way P true ty Wg S (StGo P ty Wg C n LW Rw S j ls (AftGo P ty Wg C n LW Rw Dr rest j L ls) c) f M g w → MOk j ⟨ls :: rest, L, S, M, 5, f, 0⟩ g w
  | rg {c : Nat} {ls : List (List Int)} {rest : List (Nat × List (List Int))} {S M : Nat → Prop} {f : Tr} {g : Goroutine} {w : World} :
      Way P true ty Wg S (RStop P ty Wg Rw S c ls (AftLane P ty Wg Rw Dr S rest)) f M g w → MOk j ⟨[], (c, ls) :: rest, S, M, 4, f, 0⟩ g w
  | pk {c : Nat} {ls : List (List Int)} {rest : List (Nat × List (List Int))} {S M : Nat → Prop} {z : Value} {g₂ : Goroutine} {w : World} :
      (∀ w₁, RM ty Wg (fun b => M b ∨ S b) w w₁ → AtRecv P c g₂ g₂ z w₁ ∧ RAft P ty Wg Rw S c ls (AftLane P ty Wg Rw Dr S rest) M g₂ z w₁) → MOk j ⟨[], (c, ls) :: rest, S, M, 3, .leaf, 0⟩ (parked g₂ #[rcase c z] (.recv true)) w
  | door {S M : Nat → Prop} {g : Goroutine} {w : World} : (∀ w₁, RM ty Wg (fun b => M b ∨ S b) w w₁ → Dr S M g w₁) → MOk j ⟨[], [], S, M, 2, .leaf, 0⟩ g w

variable {P ty Wg C n LW Rw Dr}
section
variable {j : Nat} {x : Mn} {g a a' : Goroutine} {w w₁ w' : World}

theorem MOk.rely (h : MOk P ty Wg C n LW Rw Dr j x g w) (r : RM ty Wg (fun b => x.M b ∨ x.S b) w w₁) : MOk P ty Wg C n LW Rw Dr j x g w₁ := by
  cases h with
  | lane h => exact .lane (h.rely r)
  | kd h => exact .kd (h.rely r)
  | a1 h => exact .a1 (h.rely r)
  | ke h => exact .ke (h.rely r)
  | go h => exact .go (h.rely r)
  | rg h => exact .rg (h.rely r)
  | pk h => exact .pk fun w₂ h₂ => h w₂ (r.trans h₂)
  | door h => exact .door fun w₂ h₂ => h w₂ (r.trans h₂)
theorem RStop.running {S : Nat → Prop} {c : Nat} {ls : List (List Int)} {K : (Nat → Prop) → Goroutine → World → Prop} {M : Nat → Prop} (h : RStop P ty Wg Rw S c ls K M g w) : g.status = .running := by
  obtain ⟨_, _, h⟩ := (rstop_iff P ty Wg Rw).1 h
  exact (h w (RM.refl w)).1.1
/-- It runs, or it is parked at its receive. -/
theorem MOk.status (hD : ∀ S M g w, Dr S M g w → g.status = .running) (h : MOk P ty Wg C n LW Rw Dr j x g w) : (g.status = .running ∧ x.tag ≠ 3) ∨ (x.tag = 3 ∧ ∃ c ls rest g₂ z, x.L = (c, ls) :: rest ∧ g = parked g₂ #[rcase c z] (.recv true)) := by
  cases h with
  | lane h => exact .inl ⟨h.running fun _ _ _ h => h.1, by simp⟩
  | kd h => exact .inl ⟨h.running fun _ _ _ h => h.1, by simp⟩
  | a1 h => exact .inl ⟨h.running fun _ _ _ h => h.1, by simp⟩
  | ke h => exact .inl ⟨h.running fun _ _ _ h => h.1, by simp⟩
  | go h => exact .inl ⟨h.running fun _ _ _ h => h.1, by simp⟩
  | rg h => exact .inl ⟨h.running fun _ _ _ h => RStop.running h, by simp⟩
  | pk h => exact .inr ⟨rfl, _, _, _, _, _, rfl, rfl⟩
  | door h => exact .inl ⟨hD _ _ _ _ (h w (RM.refl w)), by simp⟩
/-- A receive that is tried anew. -/
theorem AtRecv.again {c : Nat} {g₂ : Goroutine} {z : Value} {cs : Array CommCase} {sh : CommShape} (h : AtRecv P c g g₂ z w) : AtRecv P c { parked g cs sh with status := .running } g₂ z w := by
  obtain ⟨h1, h2, h3, h4⟩ := h
  have e : ∀ w, stepG P true { parked g cs sh with status := .running } w = stepG P true g w := fun w => by
    rw [stepG_tries]; congr 1; cases g; simp only [Goroutine.mk.injEq, true_and] at h1 ⊢; simp_all
  exact ⟨rfl, h2, fun w => (h3 w).trans (e w).symm, fun d => (e _).trans (h4 d)⟩
/-- what it stands at is what it would stand at again -/
theorem AtRecv.self {c : Nat} {g₂ : Goroutine} {z : Value} (h : AtRecv P c g g₂ z w) : AtRecv P c g₂ g₂ z w := ⟨h.2.1, h.2.1, fun _ => rfl, fun d => (h.2.2.1 _).trans (h.2.2.2 d)⟩
theorem way_of {main : Bool} {S : Nat → Prop} {Stop : (Nat → Prop) → Goroutine → World → Prop} {M : Nat → Prop} (h : ∀ w₁, RM ty Wg (fun b => M b ∨ S b) w w₁ → Stop M g w₁) : Way P main ty Wg S Stop .leaf M g w := h
/-- The starter's record under a step of another's whose maker it is not: as it stood while its lane is open; let try anew where it has been closed. -/
theorem MOk.wokenOpen (hD : ∀ S M g w, Dr S M g w → g.status = .running) (h : MOk P ty Wg C n LW Rw Dr j x g w) (r : RM ty Wg (fun b => x.M b ∨ x.S b) w w') (hc : x.tag = 3 → ∀ c ls rest, x.L = (c, ls) :: rest → ∃ cap buf s k tm, w'.heap[c]? = some (.chan cap buf false s k tm)) :
    MOk P ty Wg C n LW Rw Dr j x (woken P a a' w' g) w' := by
  rcases h.status hD with ⟨hs, _⟩ | ⟨h3, c, ls, rest, g₂, z, hL, rfl⟩
  · rw [woken_run hs]; exact h.rely r
  · obtain ⟨cap, buf, s, k, tm, hch⟩ := hc h3 c ls rest hL
    rw [woken_recv_open a a' hch]; exact h.rely r
theorem MOk.wokenClosed {c : Nat} {ls : List (List Int)} {rest : List (Nat × List (List Int))} {S M : Nat → Prop} (h : MOk P ty Wg C n LW Rw Dr j ⟨[], (c, ls) :: rest, S, M, 3, .leaf, 0⟩ g w) (r : RM ty Wg (fun b => M b ∨ S b) w w') {cap s k : Nat} {buf : Array Value} {tm : Bool} (hc : w'.heap[c]? = some (.chan cap buf true s k tm))
    (hw : mayWake P a = true) (ha' : a'.status = .running) : MOk P ty Wg C n LW Rw Dr j ⟨[], (c, ls) :: rest, S, M, 4, .leaf, 0⟩ (woken P a a' w' g) w' := by
  cases h with
  | pk h =>
    rename_i z g₂
    have e : woken P a a' w' (parked g₂ #[rcase c z] (.recv true)) = { parked g₂ #[rcase c z] (.recv true) with status := .running } := by
      unfold Go.Conc.woken
      rw [if_pos (by simp [hw, ha'])]
      exact again_recv_closed hc
    rw [e]
    exact .rg (way_of fun w₁ h₁ => (rstop_iff P ty Wg Rw).2 ⟨_, _, fun w₂ h₂ => ⟨(h w₂ (r.trans (h₁.trans h₂))).1.again, (h w₂ (r.trans (h₁.trans h₂))).2⟩⟩)
end

/-! ### into the next tag -/
theorem MOk.ofRg {j : Nat} {S M : Nat → Prop} {g : Goroutine} {w : World} : ∀ {L : List (Nat × List (List Int))}, (L = [] → ∀ w₁, RM ty Wg (fun b => M b ∨ S b) w w₁ → Dr S M g w₁) → MRg P ty Wg Rw S (Dr S) L M g w → ∃ f tag, tag ≤ 4 ∧ tag ≠ 3 ∧ (tag = 2 ↔ L = []) ∧ MOk P ty Wg C n LW Rw Dr j ⟨[], L, S, M, tag, f, 0⟩ g w
  | [], hd, _ => ⟨.leaf, 2, by omega, by omega, by simp, .door (hd rfl)⟩
  | (c, ls) :: rest, _, ⟨f, h⟩ => ⟨f, 4, by omega, by omega, by simp, .rg h⟩
end

end Go.Proofs.Ytkbfcaaihellfaa
