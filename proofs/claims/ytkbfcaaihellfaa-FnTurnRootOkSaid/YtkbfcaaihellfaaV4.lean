/- Steps on the way to the law; each part says what it proves. -/
import Derived.Test.YtkbfcaaihellfaaV3
import Derived.Test.YtkbfcaaihellfaaChecked
import Derived.KernelRfl
import Derived.Conc.Pipeline3
import Derived.Conc.CrowdRun
import Derived.Test.YtkbfcaaihellfaaV1

set_option linter.unusedSimpArgs false

/- Plain code (no goroutines, no defers, no call of a value): each step of a goroutine that runs it. No program in sight. -/
namespace Go.Proofs.Ytkbfcaaihellfaa
open Go.Conc Go.ConcN
set_option linter.unusedVariables false
set_option linter.unusedSectionVars false
set_option linter.unusedSimpArgs false

section
variable {P : Program} {F : FuncId → Bool}
/-- the operations of plain code; F: the functions that it may call -/
def okOp (P : Program) (F : FuncId → Bool) : Op → Bool
  | .move _ | .assign _ | .pick .. | .box .. | .build .. | .buildSlice .. | .load .. | .store .. | .makeInterface .. | .makeSlice .. | .slice .. | .fieldAddr .. | .indexAddr .. | .extract .. | .panic _ | .nilCheck _ | .unOp .. => true
  | .binOp _ t _ _ _ => okT P t
  | .convert s d _ => okI P s && okI P d
  | .call { callee := .value (.func f), .. } => F f
  | .call { callee := .builtin b, .. } => match b with
    | .append | .len | .min => true
    | _ => false
  | _ => false
/-- To what an operation of plain code comes. -/
def OkNext (F : FuncId → Bool) (n : Next) : Prop := (∃ v, n = .value v) ∨ n = .skip ∨ ∃ f args, n = .enter f args ∧ F f = true
structure Callable (P : Program) (F : FuncId → Bool) : Prop where
  fn : ∀ f, F f = true → ∃ fn, P.funcs[f]? = some fn ∧ (fn.name == "runtime.NumGoroutine") = false ∧ fn.body.isNone = false
theorem nom_v {s : Sem Value} (h : NoT P s) : NoM P (OkNext F) (do pure (.value (← s))) := nomT_bind h fun v => .inl ⟨v, rfl⟩
theorem nom_u {s : Sem Unit} (h : NoT P s) : NoM P (OkNext F) (do s; pure .skip) := nomT_bind h fun _ => .inr (.inl rfl)
theorem nom_rp {e : RuntimeError} {Q : Next → Prop} : NoM P Q (runtimePanic e : Sem Next) := by
  unfold runtimePanic
  refine nomT_bind nomT_program fun p => ?_
  cases e <;> dsimp only
  all_goals first | exact trivial | skip
  · exact nomT_bind nomT_elemOf fun _ => nomT_bind nomT_newVar fun _ => trivial
  · exact nomT_bind nomT_elemOf fun _ => nomT_bind nomT_newVar fun _ => trivial
theorem nom_call (hC : Callable P F) {f : FuncId} {args : Array Value} (hf : F f = true) : NoM P (OkNext F) (callFunc f args) := by
  obtain ⟨fn, h1, h2, h3⟩ := hC.fn f hf
  show NoM P (OkNext F) (match P.funcs[f]? with | none => _ | some fn => _)
  rw [h1]
  simp only [h2, h3, Bool.false_eq_true, if_false]
  exact .inr (.inr ⟨f, args, rfl, hf⟩)
theorem nom_exec (hC : Callable P F) {o : Oper} {ρ : Operand → Value} (hρ : ∀ f, ρ (.func f) = .func (.func f) #[] #[]) (h : okOp P F o.op = true) : NoM P (OkNext F) (execOp ρ o) := by
  obtain ⟨dst, op, ty, pos, aft, gd⟩ := o
  cases op <;> simp only [okOp, Bool.false_eq_true] at h
  case move x => exact .inl ⟨_, rfl⟩
  case assign x => exact .inl ⟨_, rfl⟩
  case pick c a b => exact nomT_bind nomT_asBool fun _ => .inl ⟨_, rfl⟩
  case box => exact nom_v nomT_box
  case build => exact nom_v nomT_build
  case buildSlice => exact nom_v nomT_buildSlice
  case load => exact nom_v nomT_loadAt
  case store => exact nom_u nomT_storeAt
  case nilCheck x =>
    unfold execOp
    dsimp only
    generalize ρ x = v
    split
    · exact nom_rp
    · exact nom_rp
    · exact nom_rp
    · split
      · exact nom_rp
      · refine nomT_bind nomT_program fun _ => nomT_bind (nomT_nilAhead _ _ _ _) fun _ => ?_
        split
        · exact nomT_bind nomT_unsupported fun _ => .inl ⟨_, rfl⟩
        · exact .inl ⟨_, rfl⟩
      · exact .inl ⟨_, rfl⟩
    · exact .inl ⟨_, rfl⟩
  case binOp op t x y t' => exact nom_v (nomT_bind (nomT_eqGuard h) fun _ => nomT_binOp h)
  case unOp => exact nom_v nomT_unary
  case convert => simp only [Bool.and_eq_true] at h; exact nom_v (nomT_convert h.1 h.2)
  case makeInterface => exact nom_v nomT_makeInterface
  case makeSlice => exact nom_v nomT_makeSlice
  case slice => exact nom_v nomT_sliceAt
  case fieldAddr => exact nom_v nomT_fieldAt
  case indexAddr => exact nom_v nomT_indexAt
  case extract => exact nom_v nomT_extract
  case panic => exact nom_v nomT_ipanic
  case call c =>
    obtain ⟨cl, args, ats⟩ := c
    cases cl with
    | value f =>
      cases f with
      | func f => exact nomQ_bind (Q' := fun d => d.target = .fn (.func f) #[]) (by unfold resolve; dsimp only; rw [hρ]; exact rfl) fun d hd => (by unfold invoke; rw [hd]; exact nom_call hC h)
      | _ => cases h
    | invoke => cases h
    | builtin b =>
      cases b <;> simp only [Bool.false_eq_true] at h
      · exact nom_v nomT_append
      · exact nom_v nomT_len
      · exact nom_v nomT_min
end
end Go.Proofs.Ytkbfcaaihellfaa

/- Plain code: each step of a goroutine that runs it, whoever called, whichever goroutine. No program in sight. -/
namespace Go.Proofs.Ytkbfcaaihellfaa
open Go.Conc Go.ConcN
set_option linter.unusedVariables false
set_option linter.unusedSectionVars false
set_option linter.unusedSimpArgs false

section
variable {P : Program} {F : FuncId → Bool}
def okCode (P : Program) (F : FuncId → Bool) : Code → Bool
  | .skip | .exit _ | .ret | .label _ | .goto _ => true
  | .region _ ops _ => ops.all fun o => okOp P F o.op
  | .seq a b | .cond _ a b => okCode P F a && okCode P F b
  | .block _ a | .loop a | .scope a => okCode P F a
  | _ => false
def okItem (P : Program) (F : FuncId → Bool) : Item → Bool
  | .code c | .inScope c | .inLoop c => okCode P F c
  | .inBlock _ => true
  | .inRegion ops _ => ops.all fun o => okOp P F o.op
  | _ => false
def okRes (r : ResultVar) : Bool := match r with | .tmp _ => true | _ => false
def okFn (P : Program) (F : FuncId → Bool) (f : FuncId) : Bool := match P.funcs[f]? with
  | some fn => !(fn.name == "runtime.NumGoroutine") && (match fn.body with | some c => okCode P F c | none => false) && fn.results.all okRes && (P.inits.idxOf? f).isNone
  | none => false
/-- Plain functions call plain functions; no variable of a package waits. -/
structure Plain (P : Program) (F : FuncId → Bool) : Prop where
  fn : ∀ f, F f = true → okFn P F f = true
  ahead : P.follows .staticDataAhead = true
  none : ∀ g, P.stepOf g = none
theorem Plain.info (h : Plain P F) {f : FuncId} (hf : F f = true) : ∃ fn c, P.funcs[f]? = some fn ∧ (fn.name == "runtime.NumGoroutine") = false ∧ fn.body = some c ∧ okCode P F c = true ∧ fn.results.all okRes = true ∧ P.inits.idxOf? f = Option.none := by
  have := h.fn f hf
  unfold okFn at this
  split at this
  · rename_i fn hfn
    simp only [Bool.and_eq_true] at this
    obtain ⟨⟨⟨h1, h2⟩, h3⟩, h4⟩ := this
    split at h2
    · rename_i c hc
      exact ⟨fn, c, hfn, by simpa using h1, hc, h2, h3, by simpa using h4⟩
    · cases h2
  · cases this
theorem Plain.callable (h : Plain P F) : Callable P F := ⟨fun f hf => let ⟨fn, c, h1, h2, h3, _⟩ := h.info hf; ⟨fn, h1, h2, by rw [h3]; rfl⟩⟩

/-- A frame that runs plain code. -/
structure CleanF (P : Program) (F : FuncId → Bool) (fr : Frame) : Prop where
  fn : F fr.fn = true
  defers : fr.defers = []
  kind : fr.kind = .normal
  round : fr.roundOf = Option.none
  todo : ∀ i ∈ fr.todo, okItem P F i = true
  mode : fr.mode = .run ∨ fr.mode = .returning
theorem CleanF.at {fr : Frame} (h : CleanF P F fr) {t : Array Value} {k : List Item} (hk : ∀ i ∈ k, okItem P F i = true) : CleanF P F { fr with tmps := t, todo := k } := ⟨h.fn, h.defers, h.kind, h.round, hk, h.mode⟩
theorem CleanF.finish {fr : Frame} (h : CleanF P F fr) (v : Value) : CleanF P F (fr.finish v) ∧ (fr.finish v).mode = fr.mode := by
  have ht := h.todo
  unfold Frame.finish
  split
  · rename_i ops i rest k e
    rw [e] at ht
    refine ⟨⟨h.fn, h.defers, h.kind, h.round, fun x hx => ?_, h.mode⟩, rfl⟩
    rcases List.mem_cons.1 hx with rfl | hx
    · exact ht (.inRegion ops (i :: rest)) (by simp)
    · exact ht x (by simp [hx])
  · rename_i e; rw [e] at ht; have := ht _ (List.mem_cons_self ..); cases this
  · rename_i e; rw [e] at ht; have := ht _ (List.mem_cons_self ..); cases this
  · rename_i e; rw [e] at ht; have := ht _ (List.mem_cons_self ..); cases this
  · rename_i e; rw [e] at ht; have := ht _ (List.mem_cons_self ..); cases this
  · exact ⟨h, rfl⟩
theorem CleanF.enter (h : Plain P F) {f : FuncId} (hf : F f = true) (args : Array Value) : CleanF P F (Frame.enter P f args .normal) ∧ (Frame.enter P f args .normal).mode = .run := by
  obtain ⟨fn, c, h1, _, h3, h4, _⟩ := h.info hf
  refine ⟨⟨hf, rfl, rfl, rfl, fun i hi => ?_, .inl rfl⟩, rfl⟩
  simp only [Frame.enter, h1, Option.bind_some, h3, Option.getD_some, List.mem_singleton] at hi
  subst hi
  exact h4
theorem exitTo_ok {id : Nat} : ∀ {k k' : List Item}, (∀ i ∈ k, okItem P F i = true) → exitTo id k = some k' → ∀ i ∈ k', okItem P F i = true
  | [], k', h, e => by cases e
  | x :: k, k', h, e => by
    have hk : ∀ i ∈ k, okItem P F i = true := fun i hi => h i (by simp [hi])
    unfold exitTo at e
    split at e
    · rename_i h1 _ heq
      cases heq
      split at e
      · cases e; exact hk
      · exact exitTo_ok hk e
    · rename_i heq
      cases heq
      exact exitTo_ok hk e
    · rename_i heq; cases heq
theorem findLabel_ok {l : Nat} : ∀ {c c' : Code}, okCode P F c = true → findLabel c l = some c' → okCode P F c' = true := by
  intro c
  induction c with
  | seq a b iha ihb =>
    intro c' h e
    simp only [okCode, Bool.and_eq_true] at h
    unfold findLabel at e
    split at e
    · rename_i r hr
      cases e
      simp only [okCode, Bool.and_eq_true]
      exact ⟨iha h.1 hr, h.2⟩
    · exact ihb h.2 e
  | label l' =>
    intro c' h e
    unfold findLabel at e
    split at e
    · cases e; rfl
    · cases e
  | _ => intro c' h e; unfold findLabel at e; cases e
theorem gotoIn_ok {l : Nat} : ∀ {k k' : List Item}, (∀ i ∈ k, okItem P F i = true) → gotoIn l k = some k' → ∀ i ∈ k', okItem P F i = true
  | [], k', h, e => by cases e
  | x :: k, k', h, e => by
    have hk : ∀ i ∈ k, okItem P F i = true := fun i hi => h i (by simp [hi])
    unfold gotoIn at e
    split at e
    · rename_i b k1 heq
      cases heq
      have hb : okCode P F b = true := h (.inScope b) (by simp)
      split at e
      · rename_i r hr
        cases e
        intro i hi
        rcases List.mem_cons.1 hi with rfl | hi
        · exact findLabel_ok hb hr
        · rcases List.mem_cons.1 hi with rfl | hi
          · exact hb
          · exact hk i hi
      · exact gotoIn_ok hk e
    · rename_i heq
      cases heq
      exact gotoIn_ok hk e
    · rename_i heq; cases heq

/-- What a step of plain code is, whoever called (cs), whichever goroutine (main): it goes on in plain code · it panics · it ends all. -/
inductive StepC (P : Program) (F : FuncId → Bool) (fr : Frame) (l : List Frame) (w : World) : Prop
  | go (fr' : Frame) (l' : List Frame) (w' : World) (es : Array Event) : CleanF P F fr' → (∀ x ∈ l', CleanF P F x ∧ x.mode = .run) → w.heap.size ≤ w'.heap.size → (∀ e ∈ es, EvP w'.heap.size e) →
      (∀ main cs, stepG P main (G fr (l ++ cs)) w = .go (G fr' (l' ++ cs)) w' es) → StepC P F fr l w
  | trap (fr' : Frame) (w' : World) (es : Array Event) : (∃ ch, fr'.mode = .panicking ch) → fr'.defers = [] → (∀ main cs, stepG P main (G fr (l ++ cs)) w = .go (G fr' (l ++ cs)) w' es) → StepC P F fr l w
  | ended : (∀ main cs, ∃ o w' es, stepG P main (G fr (l ++ cs)) w = .ended o w' es) → StepC P F fr l w

theorem apply_c (hP : Plain P F) {fr : Frame} {l : List Frame} (hf : CleanF P F fr) (hm : fr.mode = .run) (hl : ∀ x ∈ l, CleanF P F x ∧ x.mode = .run) {ops : Array Oper} {i : Nat} {rest : List Nat} {k : List Item} (ht : fr.todo = .inRegion ops (i :: rest) :: k) {s : Sem Next} (hs : NoM P (OkNext F) s) (w : World)
    (h : ∀ main cs, stepG P main (G fr (l ++ cs)) w = stepG.apply P true fr (l ++ cs) none s w) : StepC P F fr l w := by
  obtain ⟨h1, h2, h3⟩ := runT_nom s hs w #[]
  have hk : (fr.kind == CallKind.early) = false := by rw [hf.kind]; rfl
  have h3' : ∀ e ∈ s.events P w #[], EvP (resw (s.run P w)).heap.size e := fun e he => by
    have := h3 e he
    rw [Sem.runT_eq] at this
    exact this.resolve_left (by simp)
  rw [Sem.runT_eq] at h1 h2
  simp only at h1 h2
  generalize hr : s.run P w = r at h1 h2 h3'
  cases r with
  | ok a w' =>
    have hev : ∀ e ∈ seen P fr.fn (s.events P w #[]), EvP w'.heap.size e := fun e he => h3' e (mem_seen he)
    rcases h1 with ⟨v, rfl⟩ | rfl | ⟨f, args, rfl, hF⟩
    · refine .go (fr.finish v) l w' _ (hf.finish v).1 hl h2 hev (fun main cs => ?_)
      rw [h]; simp [stepG.apply, hr, hk, ht, G, GStep.after]
    · refine .go (fr.finish undef) l w' _ (hf.finish undef).1 hl h2 hev (fun main cs => ?_)
      rw [h]; simp [stepG.apply, hr, hk, ht, G, GStep.after]
    · refine .go (Frame.enter P f args .normal) (fr :: l) w' _ (CleanF.enter hP hF args).1 (fun x hx => ?_) h2 hev (fun main cs => ?_)
      · rcases List.mem_cons.1 hx with rfl | hx
        · exact ⟨hf, hm⟩
        · exact hl x hx
      · rw [h]; simp [stepG.apply, hr, hk, ht, G, GStep.after]
  | halt h' w' =>
    cases h' <;> simp only [resOk, HaltOk] at h1
    case panic v =>
      refine .trap (fr.raise [{ v, recovered := false }]) w' (seen P fr.fn (s.events P w #[])) ?_ ?_ (fun main cs => ?_)
      · unfold Frame.raise; rw [hm]; exact ⟨_, rfl⟩
      · unfold Frame.raise; rw [hm]; exact hf.defers
      · rw [h]; simp [stepG.apply, hr, hk, ht, G, GStep.after]
    case stuck why =>
      refine .ended fun main cs => ?_
      rw [h]; simp [stepG.apply, hr, hk, ht, G, GStep.after]
    case unsupported u =>
      refine .ended fun main cs => ?_
      rw [h]
      cases u with
      | initOrder g => simp [stepG.apply, hr, hk, ht, G, GStep.after, early, hP.ahead, hP.none g]
      | _ => simp [stepG.apply, hr, hk, ht, G, GStep.after]
theorem results_tmps {fn : Func} {tmps : Array Value} (h : fn.results.all okRes = true) (P : Program) (w : World) : ∃ v, (results fn tmps).run P w = .ok v w ∧ (results fn tmps).events P w #[] = #[] := by
  have key : ∀ (l : List ResultVar), (∀ r ∈ l, okRes r = true) → ∃ vs, (l.mapM (fun r => (match r with | .tmp t => pure (tmps.getD t undef) | .cell a t => do loadVar t (← asAddr (tmps.getD a undef)) : Sem Value))) = pure vs := by
    intro l
    induction l with
    | nil => exact fun _ => ⟨[], rfl⟩
    | cons r l ih =>
      intro hl
      obtain ⟨vs, hvs⟩ := ih fun r hr => hl r (by simp [hr])
      have hr := hl r (by simp)
      cases r with
      | tmp t => exact ⟨tmps.getD t undef :: vs, by rw [List.mapM_cons, hvs]; rfl⟩
      | cell a t => cases hr
  obtain ⟨vs, hvs⟩ := key fn.results.toList (fun r hr => by
    have := Array.all_eq_true_iff_forall_mem.1 h r (by simpa using hr)
    exact this)
  have : results fn tmps = pure (if h : vs.toArray.size = 1 then vs.toArray[0] else .tuple vs.toArray) := by
    unfold results
    rw [Array.mapM_eq_mapM_toList]
    erw [hvs]
    rfl
  rw [this]
  exact ⟨_, rfl, rfl⟩
end
end Go.Proofs.Ytkbfcaaihellfaa

/- Plain code: each step. No program in sight. -/
namespace Go.Proofs.Ytkbfcaaihellfaa
open Go.Conc Go.ConcN
set_option linter.unusedVariables false
set_option linter.unusedSectionVars false
set_option linter.unusedSimpArgs false

section
variable {P : Program} {F : FuncId → Bool}
theorem ctl_c {fr fr' : Frame} {l : List Frame} {w : World} (hf : CleanF P F fr') (hl : ∀ x ∈ l, CleanF P F x ∧ x.mode = .run) (h : ∀ main cs, stepG P main (G fr (l ++ cs)) w = .go (G fr' (l ++ cs)) w #[]) : StepC P F fr l w :=
  .go fr' l w #[] hf hl (Nat.le_refl _) (by simp) h
theorem clean_step (hP : Plain P F) {fr : Frame} {l : List Frame} (hf : CleanF P F fr) (hl : ∀ x ∈ l, CleanF P F x ∧ x.mode = .run) (w : World) (hpop : fr.mode = .run ∨ l ≠ []) : StepC P F fr l w := by
  rcases hf.mode with hm | hm
  · have ht := hf.todo
    obtain ⟨fn, tmps, todo, defers, mode, kind, ro⟩ := fr
    obtain ⟨h1, rfl, rfl, rfl, _, _⟩ := hf
    change mode = .run at hm
    change ∀ i ∈ todo, okItem P F i = true at ht
    subst hm
    have cl : ∀ {k : List Item} {m : FrameMode}, (∀ i ∈ k, okItem P F i = true) → (m = .run ∨ m = .returning) → CleanF P F { fn := fn, tmps := tmps, todo := k, defers := [], mode := m, kind := .normal, roundOf := none } := fun hk hm => ⟨h1, rfl, rfl, rfl, hk, hm⟩
    cases todo with
    | nil => exact ctl_c (cl (k := []) (by simp) (.inr rfl)) hl (fun main cs => by simp [stepG, stepG.exec, G])
    | cons x k =>
      have hk : ∀ i ∈ k, okItem P F i = true := fun i hi => ht i (by simp [hi])
      have hx := ht x (by simp)
      have two : ∀ {a b : Item}, okItem P F a = true → okItem P F b = true → ∀ i ∈ a :: b :: k, okItem P F i = true := fun ha hb i hi => by
        rcases List.mem_cons.1 hi with rfl | hi
        · exact ha
        · rcases List.mem_cons.1 hi with rfl | hi
          · exact hb
          · exact hk i hi
      have one : ∀ {a : Item}, okItem P F a = true → ∀ i ∈ a :: k, okItem P F i = true := fun ha i hi => by
        rcases List.mem_cons.1 hi with rfl | hi
        · exact ha
        · exact hk i hi
      cases x with
      | inBlock id => exact ctl_c (cl hk (.inl rfl)) hl (fun main cs => by simp [stepG, stepG.exec, G])
      | inScope c => exact ctl_c (cl hk (.inl rfl)) hl (fun main cs => by simp [stepG, stepG.exec, G])
      | inLoop c => exact ctl_c (cl (two (a := .code c) (b := .inLoop c) hx hx) (.inl rfl)) hl (fun main cs => by simp [stepG, stepG.exec, G])
      | inRegion ops li =>
        cases li with
        | nil => exact ctl_c (cl hk (.inl rfl)) hl (fun main cs => by simp [stepG, stepG.exec, G])
        | cons i rest =>
          by_cases hw : ((ops[i]?).map (Region.wanted · (yielded ops tmps))).getD false = true
          · cases ho : ops[i]? with
            | none => rw [ho] at hw; simp at hw
            | some o =>
              have hop : okOp P F o.op = true := Array.all_eq_true_iff_forall_mem.1 hx o (Array.mem_of_getElem? ho)
              refine apply_c hP (cl ht (.inl rfl)) rfl hl rfl (nom_exec hP.callable (ρ := Frame.eval { fn := fn, tmps := tmps, todo := .inRegion ops (i :: rest) :: k, defers := [], mode := .run, kind := .normal, roundOf := none }) (fun _ => rfl) hop) w fun main cs => ?_
              have hw' : Region.wanted o (yielded ops tmps) = true := by rw [ho] at hw; simpa using hw
              simp [stepG, stepG.exec, stepG.oper, G, Frame.oper?, ho, hw']
          · refine ctl_c (CleanF.finish (cl ht (.inl rfl)) undef).1 hl (fun main cs => ?_)
            simp only [Bool.not_eq_true] at hw
            simp [stepG, stepG.exec, G, hw]
      | code c =>
        cases c with
        | skip => exact ctl_c (cl hk (.inl rfl)) hl (fun main cs => by simp [stepG, stepG.exec, G])
        | label _ => exact ctl_c (cl hk (.inl rfl)) hl (fun main cs => by simp [stepG, stepG.exec, G])
        | ret => exact ctl_c (cl ht (.inr rfl)) hl (fun main cs => by simp [stepG, stepG.exec, G])
        | seq a b =>
          simp only [okItem, okCode, Bool.and_eq_true] at hx
          exact ctl_c (cl (two (a := .code a) (b := .code b) hx.1 hx.2) (.inl rfl)) hl (fun main cs => by simp [stepG, stepG.exec, G])
        | block id a => exact ctl_c (cl (two (a := .code a) (b := .inBlock id) hx rfl) (.inl rfl)) hl (fun main cs => by simp [stepG, stepG.exec, G])
        | loop a => exact ctl_c (cl (two (a := .code a) (b := .inLoop a) hx hx) (.inl rfl)) hl (fun main cs => by simp [stepG, stepG.exec, G])
        | scope a => exact ctl_c (cl (two (a := .code a) (b := .inScope a) hx hx) (.inl rfl)) hl (fun main cs => by simp [stepG, stepG.exec, G])
        | cond c a b =>
          simp only [okItem, okCode, Bool.and_eq_true] at hx
          generalize hv : Frame.eval { fn := fn, tmps := tmps, todo := .code (.cond c a b) :: k, defers := [], mode := .run, kind := .normal, roundOf := none } c = v
          by_cases hb : ∃ t, v = .bool t
          · obtain ⟨t, rfl⟩ := hb
            exact ctl_c (cl (one (a := .code (if t then a else b)) (by cases t; exact hx.2; exact hx.1)) (.inl rfl)) hl (fun main cs => by simp [stepG, stepG.exec, G, hv])
          · refine .ended fun main cs => ?_
            cases v <;> first | exact absurd ⟨_, rfl⟩ hb | simp [stepG, stepG.exec, G, hv]
        | exit id =>
          cases he : exitTo id k with
          | some k' => exact ctl_c (cl (exitTo_ok hk he) (.inl rfl)) hl (fun main cs => by simp [stepG, stepG.exec, G, he])
          | none => exact .ended fun main cs => by simp [stepG, stepG.exec, G, he]
        | goto id =>
          cases he : gotoIn id k with
          | some k' => exact ctl_c (cl (gotoIn_ok hk he) (.inl rfl)) hl (fun main cs => by simp [stepG, stepG.exec, G, he])
          | none => exact .ended fun main cs => by simp [stepG, stepG.exec, G, he]
        | region id ops dr =>
          cases dr with
          | false => exact ctl_c (cl (one (a := .inRegion ops (List.range ops.size)) hx) (.inl rfl)) hl (fun main cs => by simp [stepG, stepG.exec, G])
          | true =>
            refine .go { fn := fn, tmps := tmps, todo := .inRegion ops (Region.schedule (P.follows .mixedOrders) ops (w.tape w.drawn (.order fn id))) :: k, defers := [], mode := .run, kind := .normal, roundOf := none } l { w with drawn := w.drawn + 1 } #[] (cl (one (a := .inRegion ops _) hx) (.inl rfl)) hl (Nat.le_refl _) (by simp) (fun main cs => ?_)
            simp [stepG, stepG.exec, G, choose, Sem.run, Question.forced, Question.cut]
        | rangeFunc => cases hx
        | refuse => cases hx
      | _ => cases hx
  · cases l with
    | nil => rcases hpop with h | h
             · rw [hm] at h; cases h
             · exact absurd rfl h
    | cons c l' =>
      obtain ⟨fn, cd, h1, _, _, _, h5, _⟩ := hP.info hf.fn
      obtain ⟨v, hv, he⟩ := results_tmps (tmps := fr.tmps) h5 P w
      have hc := hl c (by simp)
      refine .go (c.finish v) l' w #[] (hc.1.finish v).1 (fun x hx => hl x (by simp [hx])) (Nat.le_refl _) (by simp) (fun main cs => ?_)
      simp [stepG, G, hm, unwind, hf.defers, h1, hv, he, doReturn, hf.kind, GStep.after, seen]
end
end Go.Proofs.Ytkbfcaaihellfaa

/- Plain code: a contract of a lone call holds wherever nobody else acts, and what the call lists is well. No program in sight. -/
namespace Go.Proofs.Ytkbfcaaihellfaa
open Go.Conc Go.ConcN
set_option linter.unusedVariables false
set_option linter.unusedSectionVars false
set_option linter.unusedSimpArgs false

section
variable {P : Program} {F : FuncId → Bool}
/-- A frame below which no run gets. -/
def doorF (P : Program) : Frame := { fn := P.funcs.size, tmps := #[], todo := [.call default false "fmt's door?" #[]], defers := [], mode := .run, kind := .normal }
theorem door_row : Extern.next "fmt's door?" = none := by kernel_rfl
theorem door_starts : ("fmt's door?".startsWith "fmt's door") = true := by kernel_rfl
theorem door_fn : P.funcs[P.funcs.size]? = none := by simp
theorem step_door_in {w : World} {v : Value} : ∃ o w', step P (lone ((doorF P).finish v) [] w) = .ended o w' := by
  refine ⟨_, w, step_lone_ended (o := .stuck ("no extern row " ++ "fmt's door?") (Frame.pos P ((doorF P).finish v))) ?_⟩
  simp [doorF, Frame.finish, stepG, stepG.exec, door_row]
theorem step_door_trap {w : World} {ch : List PanicEntry} : ∃ o w', step P (lone ((doorF P).raise ch) [] w) = .ended o w' := by
  refine ⟨_, w, step_lone_ended (o := .unsupported (.noEntry "a panic or Goexit out of a method that fmt calls behind a cut's door") (Frame.pos P ((doorF P).raise ch))) ?_⟩
  have hc : ((doorF P).raise ch).catches P = true := by
    unfold Frame.catches Frame.raise doorF
    simp [door_starts]
  unfold stepG
  simp only [Frame.raise, doorF] at hc ⊢
  simp [unwind, hc]
theorem runN_ended {m : Machine} {o : Outcome} {w : World} (h : step P m = .ended o w) {n : Nat} {m' : Machine} : runN P (n + 1) m ≠ .next m' := by
  unfold runN; rw [h]; exact fun e => by cases e
/-- Once it panics it does not come back. -/
theorem trap_dead {fe : Frame} {we : World} (he : fe.mode = .returning) : ∀ (n : Nat) (fr : Frame) (l : List Frame) (w : World), (∃ ch, fr.mode = .panicking ch) → fr.defers = [] → (∀ x ∈ l, CleanF P F x ∧ x.mode = .run) → runN P n (lone fr (l ++ [doorF P]) w) ≠ .next (lone fe [doorF P] we) := by
  intro n
  induction n with
  | zero =>
    rintro fr l w ⟨ch, hm⟩ _ _ e
    simp only [runN, Stepped.next.injEq] at e
    have : fr = fe := by have := congrArg (fun m => (m.gs[0]?).map (·.frame)) e; simpa [lone] using this
    rw [this, he] at hm
    cases hm
  | succ n ih =>
    rintro fr l w ⟨ch, hm⟩ hd hl e
    by_cases hc : fr.catches P = true
    · have : step P (lone fr (l ++ [doorF P]) w) = .ended (.unsupported (.noEntry "a panic or Goexit out of a method that fmt calls behind a cut's door") (fr.pos P)) w := step_lone_ended (by simp [stepG, hm, unwind, hd, hc])
      exact runN_ended this e
    · have hc' : fr.catches P = false := by simpa using hc
      cases l with
      | nil =>
        have : step P (lone fr ([] ++ [doorF P]) w) = .next (lone ((doorF P).raise ch) [] w) := step_lone_go (by simp [stepG, hm, unwind, hd, hc'])
        unfold runN at e
        rw [this] at e
        cases n with
        | zero =>
          simp only [runN, Stepped.next.injEq] at e
          have := congrArg (fun m => (m.gs[0]?).map (·.callers)) e
          simp [lone] at this
        | succ n =>
          obtain ⟨o, w', h⟩ := step_door_trap (P := P) (w := w) (ch := ch)
          exact runN_ended h e
      | cons x l' =>
        have : step P (lone fr (x :: l' ++ [doorF P]) w) = .next (lone (x.raise ch) (l' ++ [doorF P]) w) := step_lone_go (by simp [stepG, hm, unwind, hd, hc'])
        unfold runN at e
        rw [this] at e
        have hx := hl x (by simp)
        refine ih (x.raise ch) l' w ?_ ?_ (fun z hz => hl z (by simp [hz])) e
        · unfold Frame.raise; rw [hx.2]; exact ⟨_, rfl⟩
        · unfold Frame.raise; rw [hx.2]; exact hx.1.defers
section
variable {main : Bool} {γ : Type} {R : γ → World → World → Prop} {D : γ → World → World → Array Event → γ → Prop} {T : γ → Goroutine → World → Prop} {y : γ}
theorem go_back (hP : Plain P F) (hT : Clo P main R D T) (hR : ∀ w w₁, R y w w₁ → w₁ = w) (hD : ∀ w w' es, w.heap.size ≤ w'.heap.size → (∀ e ∈ es, EvP w'.heap.size e) → D y w w' es y) {fe c : Frame} {cs : List Frame} {we : World} {v : Value}
    (hlv : fe.leaving P we (.returned v)) (hend : T y (G (c.finish v) cs) we) : ∀ (n : Nat) (fr : Frame) (l : List Frame) (w : World), CleanF P F fr → (∀ x ∈ l, CleanF P F x ∧ x.mode = .run) → runN P n (lone fr (l ++ [doorF P]) w) = .next (lone fe [doorF P] we) → T y (G fr (l ++ c :: cs)) w := by
  intro n
  induction n with
  | zero =>
    intro fr l w hf hl e
    simp only [runN, Stepped.next.injEq] at e
    have e1 : fr = fe := by have := congrArg (fun m => (m.gs[0]?).map (·.frame)) e; simpa [lone] using this
    have e2 : l = [] := by
      have := congrArg (fun m => (m.gs[0]?).map (·.callers)) e
      have h3 : l ++ [doorF P] = [doorF P] := by simpa [lone] using this
      have := congrArg List.length h3
      simp at this
      exact this
    have e3 : w = we := by have := congrArg (fun m => m.world) e; simpa [lone] using this
    subst e1 e2 e3
    obtain ⟨hm, hd, hk, fn, h1, h2⟩ := hlv
    obtain ⟨fn', _, h1', _, _, _, h5, _⟩ := hP.info hf.fn
    rw [h1] at h1'; cases h1'
    obtain ⟨v', hv', he'⟩ := results_tmps (tmps := fr.tmps) h5 P w
    refine hT.step rfl fun w₁ r => ?_
    rw [hR _ _ r]
    refine ⟨_, w, #[], y, ?_, hT.idle _ _, hend⟩
    simp [stepG, G, hm, unwind, hd, h1, h2, he', doReturn, hk, GStep.after, seen]
  | succ n ih =>
    intro fr l w hf hl e
    by_cases hp : fr.mode = .run ∨ l ≠ []
    · rcases clean_step hP hf hl w hp with ⟨fr', l', w', es, hf', hl', hs, hev, hgo⟩ | ⟨fr', w', es, hm, hd, hgo⟩ | hen
      · have hst : step P (lone fr (l ++ [doorF P]) w) = .next (lone fr' (l' ++ [doorF P]) w') := step_lone_go (by
          have := hgo true [doorF P]
          unfold G at this
          rw [this]; rfl)
        unfold runN at e
        rw [hst] at e
        have := ih fr' l' w' hf' hl' e
        refine hT.step rfl fun w₁ r => ?_
        rw [hR _ _ r]
        exact ⟨_, w', es, y, hgo main (c :: cs), hD _ _ _ hs hev, this⟩
      · have hst : step P (lone fr (l ++ [doorF P]) w) = .next (lone fr' (l ++ [doorF P]) w') := step_lone_go (by
          have := hgo true [doorF P]
          unfold G at this
          rw [this]; rfl)
        unfold runN at e
        rw [hst] at e
        exact absurd e (trap_dead hlv.1 n fr' l w' hm hd hl)
      · obtain ⟨o, w', es, h⟩ := hen true [doorF P]
        have hst : step P (lone fr (l ++ [doorF P]) w) = .ended o w' := step_lone_ended (by
          unfold G at h
          rw [h]; rfl)
        exact absurd e (runN_ended hst)
    · have hm : fr.mode = .returning := hf.mode.resolve_left fun h => hp (.inl h)
      have hl0 : l = [] := Classical.byContradiction fun h => hp (.inr h)
      subst hl0
      obtain ⟨fn, _, h1, _, _, _, h5, _⟩ := hP.info hf.fn
      obtain ⟨v', hv', he'⟩ := results_tmps (tmps := fr.tmps) h5 P w
      have hst : step P (lone fr ([] ++ [doorF P]) w) = .next (lone ((doorF P).finish v') [] w) := step_lone_go (by simp [stepG, hm, unwind, hf.defers, h1, hv', he', doReturn, hf.kind])
      unfold runN at e
      rw [hst] at e
      cases n with
      | zero =>
        simp only [runN, Stepped.next.injEq] at e
        have := congrArg (fun m => (m.gs[0]?).map (·.callers)) e
        simp [lone] at this
      | succ n =>
        obtain ⟨o, w', h⟩ := step_door_in (P := P) (w := w) (v := v')
        exact absurd e (runN_ended h)
/-- A LONE CONTRACT OF A PLAIN FUNCTION, wherever nobody else acts. -/
theorem callsT_of_calls (hP : Plain P F) (hT : Clo P main R D T) (hR : ∀ w w₁, R y w w₁ → w₁ = w) (hD : ∀ w w' es, w.heap.size ≤ w'.heap.size → (∀ e ∈ es, EvP w'.heap.size e) → D y w w' es y) {f : FuncId} (hf : F f = true) {args : Array Value} {w : World} {Q : Ending → World → Prop} {Post : Value → World → Prop}
    (h : Calls P f args w Q) (hq : ∀ e w', Q e w' → ∃ v, e = .returned v ∧ Post v w') : CallsT P T f args y w (fun v y' w' => y' = y ∧ Post v w') := by
  intro c cs hc
  obtain ⟨e, w', fr, hQ, hcm, hfn, hlv⟩ := h [doorF P]
  obtain ⟨v, rfl, hpost⟩ := hq e w' hQ
  obtain ⟨n, hn⟩ := hcm
  have := go_back hP hT hR hD (c := c) (cs := cs) hlv (hc v y w' ⟨rfl, hpost⟩) n (Frame.enter P f args .normal) [] w (CleanF.enter hP hf args).1 (by simp) hn
  simpa using this
end
end
end Go.Proofs.Ytkbfcaaihellfaa

/- The plain functions of this program. -/
namespace Go.Proofs.Ytkbfcaaihellfaa
open Go.Conc Go.ConcN
set_option linter.unusedVariables false

def plainIds : List Nat := [9, 10, 12, 13, 14, 15, 16, 17, 19, 20, 21, 22, 23, 24, 25, 26, 27, 28, 29, 30, 31, 32, 33, 34, 35, 36, 37, 38, 39, 40, 43, 44, 45, 47, 48, 49, 50, 51, 52, 53, 54, 55, 56, 61, 63, 64, 65, 66, 67, 68, 69, 70, 90, 91, 92, 93, 94, 100, 101]
def plainF (f : FuncId) : Bool := plainIds.contains f
theorem plain_all : (plainIds.all fun f => okFn Try.prog plainF f) = true := by kernel_rfl
theorem plain_ready : (Try.prog.funcs.toList.all fun f => ((f.body.map readies).getD []).isEmpty) = true := by kernel_rfl
theorem plain_ahead : Try.prog.follows .staticDataAhead = true := by kernel_rfl
theorem plainP : Plain Try.prog plainF := by
  refine ⟨fun f hf => ?_, plain_ahead, fun g => ?_⟩
  · exact List.all_eq_true.1 plain_all f (by simpa [plainF] using hf)
  · unfold Program.stepOf
    rw [Array.findIdx?_eq_none_iff]
    intro f hf
    have := List.all_eq_true.1 plain_ready f (by simpa using hf)
    cases hb : f.body with
    | none => rfl
    | some c =>
      rw [hb] at this
      have : readies c = [] := by simpa using this
      simp [this]
end Go.Proofs.Ytkbfcaaihellfaa

/- A goroutine alone on its way to the end of the run, its trace kept. No program in sight. -/
namespace Go.Proofs.Ytkbfcaaihellfaa
open Go.Conc Go.ConcN
set_option linter.unusedVariables false
set_option linter.unusedSectionVars false
set_option linter.unusedSimpArgs false

/-- One goroutine's doing: no mark but the request for room; touches below n. -/
structure TrOk (n : Nat) (t : Trace) : Prop where
  g : ∀ op ∈ t, op.g = 0
  mks : ∀ op ∈ t, ∀ m, op.act = .mark m → m = .noRoom
  low : ∀ op ∈ t, ∀ x, op.act.touch? = some x → x.loc.isMemory = true → blk x.loc < n
theorem TrOk.nil (n : Nat) : TrOk n #[] := ⟨by simp, by simp, by simp⟩
theorem TrOk.mono {n n' : Nat} {t : Trace} (h : TrOk n t) (hn : n ≤ n') : TrOk n' t := ⟨h.g, h.mks, fun op hop x hx hm => Nat.lt_of_lt_of_le (h.low op hop x hx hm) hn⟩
theorem evP_act {n : Nat} {e : Event} (h : EvP n e) : (∀ m, MemAct.ofEvent e = .mark m → m = .noRoom) ∧ ∀ x, (MemAct.ofEvent e).touch? = some x → x.loc.isMemory = true → blk x.loc < n := by
  obtain ⟨loc, wr, sy⟩ := e
  obtain ⟨h1, h2⟩ := h
  cases loc with
  | mark m =>
    have := h1 m rfl
    subst this
    constructor
    · intro m hm
      have : MemAct.ofEvent ⟨.mark .noRoom, wr, sy⟩ = .mark .noRoom := by cases wr <;> cases sy <;> rfl
      rw [this] at hm
      cases hm; rfl
    · intro x hx
      have : MemAct.ofEvent ⟨.mark .noRoom, wr, sy⟩ = .mark .noRoom := by cases wr <;> cases sy <;> rfl
      rw [this] at hx
      cases hx
  | cell a =>
    constructor
    · intro m hm; cases wr <;> cases sy <;> cases hm
    · intro x hx hm
      have : x.loc = .cell a := by cases wr <;> cases sy <;> (cases hx; rfl)
      rw [this] at hm ⊢
      exact h2 hm
  | obj r =>
    constructor
    · intro m hm; cases wr <;> cases sy <;> cases hm
    · intro x hx hm
      have : x.loc = .obj r := by cases wr <;> cases sy <;> (cases hx <;> rfl)
      rw [this] at hm ⊢
      exact h2 hm
  | output =>
    constructor
    · intro m hm; cases wr <;> cases sy <;> cases hm
    · intro x hx hm
      have : x.loc = .output := by cases wr <;> cases sy <;> (cases hx; rfl)
      rw [this] at hm; cases hm
  | goroutines =>
    constructor
    · intro m hm; cases wr <;> cases sy <;> cases hm
    · intro x hx hm
      have : x.loc = .goroutines := by cases wr <;> cases sy <;> (cases hx; rfl)
      rw [this] at hm; cases hm
theorem mem_ofEv {g : Nat} {fn : FuncId} {pos : String} {es : Array Event} {op : MemOp} (h : op ∈ MemOp.ofEvents g fn pos es) : op.g = g ∧ ∃ e ∈ es, op.act = .ofEvent e := by
  unfold MemOp.ofEvents at h
  split at h
  · simp at h
  · obtain ⟨e, he, rfl⟩ := Array.mem_map.1 h
    exact ⟨rfl, e, he, rfl⟩
theorem TrOk.app {n n' : Nat} {t : Trace} {es : Array Event} (h : TrOk n t) (hn : n ≤ n') (he : ∀ e ∈ es, EvP n' e) (fn : FuncId) (pos : String) : TrOk n' (t ++ MemOp.ofEvents 0 fn pos es) := by
  have h' := h.mono hn
  refine ⟨fun op hop => ?_, fun op hop => ?_, fun op hop => ?_⟩
  · rcases Array.mem_append.1 hop with hop | hop
    · exact h'.g op hop
    · exact (mem_ofEv hop).1
  · rcases Array.mem_append.1 hop with hop | hop
    · exact h'.mks op hop
    · obtain ⟨_, e, h1, h2⟩ := mem_ofEv hop
      intro m hm
      rw [h2] at hm
      exact (evP_act (he e h1)).1 m hm
  · rcases Array.mem_append.1 hop with hop | hop
    · exact h'.low op hop
    · obtain ⟨_, e, h1, h2⟩ := mem_ofEv hop
      intro x hx
      rw [h2] at hx
      exact (evP_act (he e h1)).2 x hx
section
variable {P : Program} {Post : Value → World → Prop}
/-- FROM HERE THE RUN ENDS WELL. -/
def EndsWell (P : Program) (Post : Value → World → Prop) (m : Machine) (t : Trace) : Prop :=
  ∃ N last o w' t', runNT P (N + 1) m t = (.ended o w', t') ∧ runN P N m = .next last ∧ step P last = .ended o w' ∧ Good P Post last o w' t'
theorem EndsWell.steps {m m' : Machine} {t t' : Trace} {k : Nat} (h : runNT P k m t = (.next m', t')) (he : EndsWell P Post m' t') : EndsWell P Post m t := by
  obtain ⟨N, last, o, w', t'', h1, h2, h3, h4⟩ := he
  refine ⟨k + N, last, o, w', t'', ?_, ?_, h3, h4⟩
  · rw [Nat.add_assoc, runNT_add, h]; exact h1
  · rw [runN_add, ← runNT_fst P _ _ t, h]; exact h2
/-- .. whatever it has done so far, as far as it touched nothing at or behind its memory's end. -/
def LT (P : Program) (Post : Value → World → Prop) (_ : Unit) (g : Goroutine) (w : World) : Prop := ∀ t, TrOk w.heap.size t → EndsWell P Post (crowd #[g] w none) t
/-- .. at or behind n. -/
def LTn (P : Program) (Post : Value → World → Prop) (n : Nat) (_ : Unit) (g : Goroutine) (w : World) : Prop := ∀ t, TrOk n t → EndsWell P Post (crowd #[g] w none) t
def DT (_ : Unit) (w w' : World) (es : Array Event) (_ : Unit) : Prop := w.heap.size ≤ w'.heap.size ∧ ∀ e ∈ es, EvP w'.heap.size e
def DTn (n : Nat) (_ : Unit) (w w' : World) (es : Array Event) (_ : Unit) : Prop := ∀ e ∈ es, EvP n e
def RT (_ : Unit) (w w₁ : World) : Prop := w₁ = w
theorem run_one {g g' : Goroutine} {w w' : World} {es : Array Event} (hs : g.status = .running) (h : stepG P true g w = .go g' w' es) (t : Trace) : runNT P 1 (crowd #[g] w none) t = (.next (crowd #[g'] w' none), t ++ MemOp.ofEvents 0 g.frame.fn g.frame.place es) := by
  have h1 : stepT P (crowd #[g] w none) = runT P (crowd #[g] w none) 0 := stepT_solo hs
  have h2 := runT_crowd_go (P := P) (gs := #[g]) (w := w) (sl := none) (i := 0) rfl (by simpa using h)
  simp only [runNT, h1, h2]
  simp
theorem clo_lt : Clo P true RT DT (LT P Post) := by
  refine ⟨fun h r => (by unfold RT at r; subst r; exact h), fun hs h t ht => ?_, fun y w => ⟨Nat.le_refl _, by simp⟩, fun y w => ⟨Nat.le_refl _, by simp⟩⟩
  obtain ⟨g', w', es, _, h1, h2, h3⟩ := h _ rfl
  exact (h3 _ (ht.app h2.1 h2.2 _ _)).steps (run_one hs h1 t)
theorem clo_ltn {n : Nat} : Clo P true RT (DTn n) (LTn P Post n) := by
  refine ⟨fun h r => (by unfold RT at r; subst r; exact h), fun hs h t ht => ?_, fun y w => by simp [DTn], fun y w => by simp [DTn]⟩
  obtain ⟨g', w', es, _, h1, h2, h3⟩ := h _ rfl
  exact (h3 _ (ht.app (Nat.le_refl _) h2 _ _)).steps (run_one hs h1 t)
theorem lt_of_ltn {g : Goroutine} {w : World} (h : LTn P Post w.heap.size () g w) : LT P Post () g w := h
/-- THE RETURN of a goroutine that was alone. -/
theorem TrOk.done {n : Nat} {t : Trace} (h : TrOk n t) {m : Machine} {v : Value} {w : World} (hm : m.gs.size = 1) (ht : m.rest.timers = #[]) (hp : Post v w) : Good P Post m (.done v) w t := by
  have g0 : ∀ {i g : Nat}, t.g? i = some g → g = 0 := fun {i g} hg => by
    obtain ⟨op, ho, rfl⟩ := Option.map_eq_some_iff.1 hg
    exact h.g op (Array.mem_of_getElem? ho)
  refine ⟨v, rfl, hp, fun said => ?_, fun i g hg hne => absurd (g0 hg) hne, ⟨fun g hg => ?_, by rw [ht]; rfl⟩, fun i g hg hne => ?_⟩
  · have := noRace_append (t := #[]) (u := t) (g := 0) (noRace_nil said) h.g (fun i a ha => by simp [touchAt, Trace.act?] at ha)
    simpa using this
  · rw [List.drop_eq_nil_of_le (by simp [hm])] at hg
    cases hg
  · have := (Array.getElem?_eq_some_iff.1 hg).1
    omega
theorem lt_done {g : Goroutine} {w w' : World} {v : Value} {es : Array Event} (hs : g.status = .running) (h : stepG P true g w = .ended (.done v) w' es) (hw : w.heap.size ≤ w'.heap.size) (he : ∀ e ∈ es, EvP w'.heap.size e) (hp : Post v w') : LT P Post () g w := by
  intro t ht
  have h1 : stepT P (crowd #[g] w none) = runT P (crowd #[g] w none) 0 := stepT_solo hs
  have h2 := runT_crowd_ended (P := P) (gs := #[g]) (w := w) (sl := none) (i := 0) rfl (by simpa using h)
  refine ⟨0, crowd #[g] w none, .done v, w', t ++ MemOp.ofEvents 0 g.frame.fn g.frame.place es, ?_, rfl, ?_, TrOk.done (ht.app hw he _ _) rfl rfl hp⟩
  · simp [runNT, h1, h2]
  · simp [step, h1, h2]
/-- what the crowd's law asks of the trace behind the lone stretch -/
theorem TrOk.ct {n Wg : Nat} {t : Trace} (h : TrOk n t) (hn : n ≤ Wg) : (∀ Own Rd, CT (ShN Wg) Own Rd t 0) ∧ (∀ i a, touchAt t i = some a → a.loc.isMemory = true → blk a.loc < n) ∧ NoRelease (Go.ConcR.stA Wg) t ∧ Deaf t 0 = 0 := by
  refine ⟨fun Own Rd => CT.lone h.g fun op hop x hx hs => ?_, fun i a ha hm => ?_, fun i hi => ?_, ?_⟩
  · obtain ⟨b, e, hb⟩ := hs
    have := h.low op hop x hx (by rw [e]; rfl)
    rw [e] at this
    have : b.block < n := this
    omega
  · obtain ⟨op, ho, hx⟩ := touch_of ha
    exact h.low op (Array.mem_of_getElem? ho) a hx hm
  · obtain ⟨op, ho, he⟩ := Option.map_eq_some_iff.1 hi
    have := h.mks op (Array.mem_of_getElem? ho) _ he
    cases this
  · have := Deaf_still #[] 0 t fun op hop => ⟨fun hm => (nomatch h.mks op hop _ hm), fun hm => (nomatch h.mks op hop _ hm)⟩
    simpa [Deaf, Trace.deaf] using this
end
end Go.Proofs.Ytkbfcaaihellfaa

/- Workers with lanes and their starter, up to the door of Wait: the starter's script, and where each stands. No program in sight. -/
namespace Go.Proofs.Ytkbfcaaihellfaa
open Go.Conc Go.ConcN
open Go.ConcR (KK wgBlock WgAt stA smA rd wr mk Payload Aside2 DC0)
set_option linter.unusedVariables false
set_option linter.unusedSectionVars false

section
variable [Payload] (P : Program) (ty : TypeId) (Wg C n LW : Nat) (Rw : List Int → Nat → Obj → Value → Prop)

/-! ### the starter ahead of the last go statement -/
def AtMkM (m : Mark) (K : Goroutine → World → Prop) (g : Goroutine) (w : World) : Prop := g.status = .running ∧ ∃ g', stepG P true g w = .go g' w #[mk m] ∧ K g' w
def AtA1M (K : Goroutine → World → Prop) (g : Goroutine) (w : World) : Prop :=
  g.status = .running ∧ ∀ v : Nat, v < 2147483647 → WgAt ty Wg w (v * KK) 0 → ∃ g', stepG P true g w = .go g' (w.setCell (stA Wg) (.int .u64 ((v + 1) * KK))) #[rd (stA Wg), wr (stA Wg)] ∧ K g' (w.setCell (stA Wg) (.int .u64 ((v + 1) * KK)))
/-- It stores lane c into the row of lanes. -/
def AtLaneM (j : Nat) (K : Nat → Goroutine → World → Prop) (M : Nat → Prop) (g : Goroutine) (w : World) : Prop :=
  g.status = .running ∧ ∃ g' c, M c ∧ PayAt C n w ∧ stepG P true g w = .go g' (w.setCell ⟨C, j, none⟩ (.chan (some c))) #[⟨.cell ⟨C, j, none⟩, true, false⟩] ∧ K c g' (w.setCell ⟨C, j, none⟩ (.chan (some c)))
/-- It starts worker j + 1: S' is what that one may read. -/
def AtGoM (S : Nat → Prop) (j : Nat) (ls : List (List Int)) (c : Nat) (K : (Nat → Prop) → (Nat → Prop) → Goroutine → World → Prop) (M : Nat → Prop) (g : Goroutine) (w : World) : Prop :=
  g.status = .running ∧ ∃ g' child S', stepG P true g w = .spawn g' child w #[] ∧ child.status = .running ∧ (∀ b, S' b → M b ∨ S b) ∧ M c ∧ ¬ S' c ∧ ¬ S' C ∧ w.heap[c]? = some (.chan 0 #[] false 0 0 false) ∧ Has C j (.chan (some c)) w ∧
    WScr P ty Wg C n LW Rw S' c (j + 1) ls (fun _ => False) child w ∧ K (fun b => S b ∨ S' b) (fun b => M b ∧ ¬ S' b ∧ b ≠ c) g' w
section
variable (S : Nat → Prop) (j : Nat) (ls : List (List Int)) (K : Nat → (Nat → Prop) → (Nat → Prop) → Goroutine → World → Prop)
def StGo (c : Nat) (M : Nat → Prop) (g : Goroutine) (w : World) : Prop := AtGoM P ty Wg C n LW Rw S j ls c (K c) M g w
def StKe (c : Nat) (M : Nat → Prop) (g : Goroutine) (w : World) : Prop := AtMkM P .enable (fun g w => ∃ f, Way P true ty Wg S (StGo P ty Wg C n LW Rw S j ls K c) f M g w) g w
def StA1 (c : Nat) (M : Nat → Prop) (g : Goroutine) (w : World) : Prop := AtA1M P ty Wg (fun g w => ∃ f, Way P true ty Wg S (StKe P ty Wg C n LW Rw S j ls K c) f M g w) g w
def StKd (c : Nat) (M : Nat → Prop) (g : Goroutine) (w : World) : Prop := AtMkM P .disable (fun g w => ∃ f, Way P true ty Wg S (StA1 P ty Wg C n LW Rw S j ls K c) f M g w) g w
def StLane (M : Nat → Prop) (g : Goroutine) (w : World) : Prop := AtLaneM P C n j (fun c g w => ∃ f, Way P true ty Wg S (StKd P ty Wg C n LW Rw S j ls K c) f M g w) M g w
end
/-- THE STARTER's SCRIPT: workers still to be started, each with its rows; then the lanes; then Door. -/
def MSp (Door : List (Nat × List (List Int)) → (Nat → Prop) → (Nat → Prop) → Goroutine → World → Prop) : List (List (List Int)) → Nat → List (Nat × List (List Int)) → (Nat → Prop) → (Nat → Prop) → Goroutine → World → Prop
  | [], j, L, S, M, g, w => Door L S M g w
  | ls :: rest, j, L, S, M, g, w => ∃ f, Way P true ty Wg S (StLane P ty Wg C n LW Rw S j ls (fun c S' M' g' w' => MSp Door rest (j + 1) (L ++ [(c, ls)]) S' M' g' w')) f M g w

/-! ### where a worker stands -/
structure Wk where
  rows : List (List Int)
  c : Nat
  M : Nat → Prop
  S : Nat → Prop
  st : Nat
  f : Tr
  m : Nat
  d : Nat
inductive WOk (k : Nat) : Wk → Goroutine → World → Prop
  | way {rows : List (List Int)} {c : Nat} {M S : Nat → Prop} {f : Tr} {m : Nat} {g : Goroutine} {w : World} : Way P false ty Wg S (WStop P ty Wg C n LW Rw S c k rows) f M g w → WOk k ⟨rows, c, M, S, 9, f, m, 0⟩ g w
  | park {xs : List Int} {rest : List (List Int)} {c r : Nat} {M S : Nat → Prop} {o : Obj} {v z' : Value} {g₂ : Goroutine} {w : World} : M r → w.heap[r]? = some o → Rw xs r o v → WScr P ty Wg C n LW Rw S c k rest (fun b => M b ∧ b ≠ r) (Go.Conc.served g₂ undef) w →
      WOk k ⟨xs :: rest, c, M, S, 8, .leaf, 0, 0⟩ (parked g₂ #[scase c v z'] .send) w
  | tail7 {c : Nat} {M S : Nat → Prop} {m : Nat} {g : Goroutine} {w : World} : Goes P false (RW ty Wg C n LW (k - 1)) DC0 (AtR0 P ty Wg C n LW k (.chan (some c))) m g w → WOk k ⟨[], c, M, S, 7, .leaf, m, 0⟩ g w
  | tail {c : Nat} {M S : Nat → Prop} {s m d : Nat} {g : Goroutine} {w : World} : s ≤ 6 → WSit P ty Wg C n no no LW k (.chan (some c)) s m d g w → WOk k ⟨[], c, M, S, s, .leaf, m, d⟩ g w
/-- What worker k suffers. -/
structure RA (k : Nat) (x : Wk) (w w₁ : World) : Prop where
  rm : RM ty Wg (fun b => x.M b ∨ x.S b) w w₁
  rw : RW ty Wg C n LW (k - 1) w w₁
theorem WScr.rely {S : Nat → Prop} {c k : Nat} : ∀ {L : List (List Int)} {M : Nat → Prop} {g : Goroutine} {w w₁ : World}, WScr P ty Wg C n LW Rw S c k L M g w → RM ty Wg (fun b => M b ∨ S b) w w₁ → WScr P ty Wg C n LW Rw S c k L M g w₁
  | [], _, _, _, _, ⟨f, h⟩, r => ⟨f, h.rely r⟩
  | _ :: _, _, _, _, _, ⟨f, h⟩, r => ⟨f, h.rely r⟩
variable {P ty Wg C n LW Rw}
theorem WOk.rely {k : Nat} {x : Wk} {g : Goroutine} {w w₁ : World} (h : WOk P ty Wg C n LW Rw k x g w) (r : RA ty Wg C n LW k x w w₁) : WOk P ty Wg C n LW Rw k x g w₁ := by
  cases h with
  | way h => exact .way (h.rely r.rm)
  | park h1 h2 h3 h4 => exact .park h1 ((r.rm.keep _ (.inl h1)).trans h2) h3 (WScr.rely P ty Wg C n LW Rw h4 (r.rm.mono fun b hb => hb.imp (·.1) id))
  | tail7 h => exact .tail7 (Goes.rely (fun _ _ _ a b => a.trans b) h r.rw)
  | tail h1 h2 => exact .tail h1 (h2.rely r.rw)
theorem WStop.running {S : Nat → Prop} {c k : Nat} {L : List (List Int)} {M : Nat → Prop} {g : Goroutine} {w : World} (h : WStop P ty Wg C n LW Rw S c k L M g w) : g.status = .running := by
  cases L <;> exact h.1
/-- It runs, it has ended, or it is parked at its send. -/
theorem WOk.status {k : Nat} {x : Wk} {g : Goroutine} {w : World} (h : WOk P ty Wg C n LW Rw k x g w) : (g.status = .running ∨ g.status = .finished) ∨ (x.st = 8 ∧ ∃ g₂ v z', g = parked g₂ #[scase x.c v z'] .send) := by
  cases h with
  | way h => exact .inl (.inl (h.running fun _ _ _ => WStop.running))
  | park => exact .inr ⟨rfl, _, _, _, rfl⟩
  | tail7 h => exact .inl (.inl (Goes.running (fun _ _ h => h.1) w (RW.refl w) h))
  | tail h1 h2 => exact .inl h2.status
/-- Nobody wakes it while its lane is open. -/
theorem WOk.woken {k : Nat} {x : Wk} {g : Goroutine} {w w' : World} (h : WOk P ty Wg C n LW Rw k x g w) (hc : x.st = 8 → ∃ buf s r tm cap, w'.heap[x.c]? = some (.chan cap buf false s r tm)) (a a' : Goroutine) : woken P a a' w' g = g := by
  rcases h.status with hs | ⟨hs, g₂, v, z', rfl⟩
  · unfold Go.Conc.woken
    split
    · exact again_running _ hs
    · rfl
  · obtain ⟨buf, s, r, tm, cap, hc⟩ := hc hs
    exact woken_send_open a a' hc
end

end Go.Proofs.Ytkbfcaaihellfaa

/- Workers with lanes and their starter: WHAT HOLDS AT EVERY MOMENT up to the door of Wait: whose each block is; the trace; where each stands. No program in sight. -/
namespace Go.Proofs.Ytkbfcaaihellfaa
open Go.Conc Go.ConcN
open Go.ConcR (KK wgBlock WgAt stA smA rd wr mk Payload Aside2 DC0 Bk g_of_ofEvents)
set_option linter.unusedVariables false
set_option linter.unusedSectionVars false

/-- Whose a block is: the starter's · nobody writes it · a lane · the group's · not made yet · worker i's -/
inductive Ow where
  | mn | st | ln | wg | fr
  | wk (i : Nat)

def OwnF (X : Nat → Wk) (k : Nat) (l : Loc) : Prop := 1 ≤ k ∧ l.isMemory = true ∧ (X (k - 1)).M (blk l)
def RdF (X : Nat → Wk) (k : Nat) (l : Loc) : Prop := 1 ≤ k ∧ ((l.isMemory = true ∧ (X (k - 1)).S (blk l)) ∨ l = .obj (X (k - 1)).c)

section
variable [Payload] (P : Program) (ty : TypeId) (Wg C n LW : Nat) (Rw : List Int → Nat → Obj → Value → Prop)

/-- Whose is what. -/
structure OwnG (j : Nat) (w : World) (X : Nat → Wk) (M0 S0 : Nat → Prop) (ow : Nat → Ow) : Prop where
  m : ∀ i, i < j → ∀ b, (X i).M b ↔ ow b = .wk i
  m0 : ∀ b, M0 b ↔ ow b = .mn
  s0 : ∀ b, S0 b → ow b = .st
  s : ∀ i, i < j → ∀ b, (X i).S b → ow b = .st ∧ b ≠ C
  c : ∀ i, i < j → ow (X i).c = .ln
  cc : ∀ i i', i < j → i' < j → (X i).c = (X i').c → i = i'
  wg : ow Wg = .wg
  wg1 : ∀ b, ow b = .wg → b = Wg
  cst : ow C = .st
  fr : ∀ b, w.heap.size ≤ b ↔ ow b = .fr
  low : ∀ b, b < LW → b ≠ Wg → ow b = .st
  wk : ∀ i b, ow b = .wk i → i < j
  out : ∀ i, j ≤ i → (∀ b, ¬ (X i).M b ∧ ¬ (X i).S b) ∧ (X i).c = Wg
/-- What holds, whoever stands where. -/
structure Base (j : Nat) (gs : Array Goroutine) (w : World) (t : Trace) (X : Nat → Wk) (d0 : Nat) : Prop where
  size : gs.size = j + 1
  wk : ∀ i, i < j → ∃ g, gs[i + 1]? = some g ∧ WOk P ty Wg C n LW Rw (i + 1) (X i) g w
  ct : CT (ShN Wg) (OwnF X) (RdF X) t j
  low : ∀ i a, touchAt t i = some a → a.loc.isMemory = true → blk a.loc < w.heap.size
  norel : NoRelease (stA Wg) t
  deaf0 : Deaf t 0 = d0
  deafW : ∀ i, i < j → Deaf t (i + 1) = (X i).d
  rel : ∀ i, i < j → (X i).st ≤ 6 → ∃ r, RelBy (stA Wg) t (i + 1) r
  has : ∀ i, i < j → Has C i (.chan (some (X i).c)) w
  pay : PayAt C n w
  ch : ∀ i, i < j → ∃ s, w.heap[(X i).c]? = some (.chan 0 #[] (decide ((X i).st ≤ 7)) s s false)
  low7 : ∀ i, i < j → (X i).st = 9 ∨ (X i).st = 8 ∨ (X i).st = 7 ∨ (X i).st = 6 ∨ (X i).st = 5 ∨ (X i).st = 1

variable {P ty Wg C n LW Rw}
section
variable {j : Nat} {gs : Array Goroutine} {w w' : World} {t u : Trace} {X : Nat → Wk} {M0 S0 : Nat → Prop} {ow : Nat → Ow} {d0 : Nat}

theorem OwnG.hm (O : OwnG Wg C LW j w X M0 S0 ow) {i b : Nat} (h : (X i).M b) : ow b = .wk i := by
  rcases Nat.lt_or_ge i j with hi | hi
  · exact (O.m i hi b).1 h
  · exact absurd h ((O.out i hi).1 b).1
theorem OwnG.hs (O : OwnG Wg C LW j w X M0 S0 ow) {i b : Nat} (h : (X i).S b) : ow b = .st := by
  rcases Nat.lt_or_ge i j with hi | hi
  · exact (O.s i hi b h).1
  · exact absurd h ((O.out i hi).1 b).2
theorem OwnG.hc (O : OwnG Wg C LW j w X M0 S0 ow) (i : Nat) : ow (X i).c = .ln ∨ ow (X i).c = .wg := by
  rcases Nat.lt_or_ge i j with hi | hi
  · exact .inl (O.c i hi)
  · exact .inr (by rw [(O.out i hi).2]; exact O.wg)
theorem shn_blk {l : Loc} (h : ShN Wg l) : blk l = Wg := by obtain ⟨a, rfl, ha⟩ := h; exact ha
theorem OwnG.apart (O : OwnG Wg C LW j w X M0 S0 ow) : Apart (ShN Wg) (OwnF X) (RdF X) := by
  refine ⟨fun k k' l h h' => ?_, fun k k' l h h' => ?_, fun k l h hs => ?_, fun k l h hs => ?_⟩
  · have h1 := O.hm h.2.2
    have h2 := O.hm h'.2.2
    rw [h1] at h2
    have := Ow.wk.inj h2
    have := h.1
    have := h'.1
    omega
  · have h1 := O.hm h.2.2
    rcases h'.2 with ⟨_, h2⟩ | rfl
    · rw [O.hs h2] at h1; cases h1
    · rcases O.hc (k' - 1) with h2 | h2 <;> (rw [show blk (.obj (X (k' - 1)).c) = (X (k' - 1)).c from rfl, h2] at h1; cases h1)
  · have h1 := O.hm h.2.2
    rw [shn_blk hs, O.wg] at h1; cases h1
  · rcases h.2 with ⟨_, h2⟩ | rfl
    · have := O.hs h2
      rw [shn_blk hs, O.wg] at this; cases this
    · obtain ⟨a, e, _⟩ := hs; cases e
/-- A step that leaves worker i's blocks and the still ones: what worker i suffers. -/
theorem OwnG.ra (O : OwnG Wg C LW j w X M0 S0 ow) {i : Nat} (hi : i < j) (hk : ∀ b, (ow b = .wk i ∨ ow b = .st) → w'.heap[b]? = w.heap[b]?) (hsz : w.heap.size ≤ w'.heap.size) (hl : WgLive ty Wg w → WgLive ty Wg w') :
    RA ty Wg C n LW (i + 1) (X i) w w' := by
  have hC := hk C (.inr O.cst)
  refine ⟨⟨fun b hb => hk b (hb.imp O.hm O.hs), hsz, hl⟩, ⟨fun b h1 h2 h3 => hk b (.inr (O.low b h1 h2)), hl, fun ⟨cs, hc, hn⟩ => ⟨cs, hC.trans hc, hn⟩, cell_of_block hC _⟩⟩
/-- .. what the starter suffers. -/
theorem OwnG.rm0 (O : OwnG Wg C LW j w X M0 S0 ow) (hk : ∀ b, (ow b = .mn ∨ ow b = .st) → w'.heap[b]? = w.heap[b]?) (hsz : w.heap.size ≤ w'.heap.size) (hl : WgLive ty Wg w → WgLive ty Wg w') : RM ty Wg (fun b => M0 b ∨ S0 b) w w' :=
  ⟨fun b hb => hk b (hb.imp (O.m0 b).1 (O.s0 b)), hsz, hl⟩
theorem live_of (hb : w'.heap[Wg]? = w.heap[Wg]?) : WgLive ty Wg w → WgLive ty Wg w' := fun ⟨st, sm, h⟩ => ⟨st, sm, h.of_block hb⟩
theorem OwnG.lt (O : OwnG Wg C LW j w X M0 S0 ow) {b : Nat} (h : ow b ≠ .fr) : b < w.heap.size := Nat.lt_of_not_le fun e => h ((O.fr b).1 e)

theorem touch_evM {M S : Nat → Prop} {e : Event} (h : EvM M S e) {x : Touch} (hx : (MemAct.ofEvent e).touch? = some x) : x.loc.isMemory = true ∧ True ∧ (M (blk x.loc) ∨ (S (blk x.loc) ∧ x.write = false)) := by
  obtain ⟨loc, wr, sy⟩ := e
  rcases h with ⟨a, rfl, h3⟩ | ⟨r, rfl, rfl, h3⟩ | h
  · have : ∃ kd, (MemAct.ofEvent ⟨.cell a, wr, sy⟩).touch? = some ⟨.cell a, wr, kd⟩ := by cases wr <;> cases sy <;> exact ⟨_, rfl⟩
    obtain ⟨kd, this⟩ := this
    rw [this] at hx
    cases hx
    exact ⟨rfl, trivial, h3⟩
  · have : (MemAct.ofEvent ⟨.obj r, wr, false⟩).touch? = some ⟨.obj r, wr, .plain⟩ := by cases wr <;> rfl
    rw [this] at hx
    cases hx
    exact ⟨rfl, trivial, .inl h3⟩
  · cases h; cases hx
theorem mem_ofEvents {g : Nat} {fn : FuncId} {pos : String} {es : Array Event} {op : MemOp} (h : op ∈ MemOp.ofEvents g fn pos es) : op.g = g ∧ ∃ e ∈ es, op.act = .ofEvent e := by
  unfold MemOp.ofEvents at h
  split at h
  · simp at h
  · obtain ⟨e, he, rfl⟩ := Array.mem_map.1 h
    exact ⟨rfl, e, he, rfl⟩
theorem OwnG.okW (O : OwnG Wg C LW j w X M0 S0 ow) {i : Nat} {fn : FuncId} {pos : String} {es : Array Event} (hes : ∀ e ∈ es, EvM (X i).M (X i).S e) : ∀ op ∈ MemOp.ofEvents (i + 1) fn pos es, OkW (ShN Wg) (OwnF X) (RdF X) (i + 1) op := by
  intro op hop
  obtain ⟨h1, e, he, ha⟩ := mem_ofEvents hop
  refine ⟨h1, fun x hx => ?_⟩
  rw [ha] at hx
  obtain ⟨h2, h3, h4⟩ := touch_evM (hes e he) hx
  rcases h4 with h4 | ⟨h4, h5⟩
  · exact .inr (.inl ⟨by omega, h2, h4⟩)
  · exact .inr (.inr ⟨⟨by omega, .inl ⟨h2, h4⟩⟩, h5⟩)
theorem OwnG.ok0 (O : OwnG Wg C LW j w X M0 S0 ow) {fn : FuncId} {pos : String} {es : Array Event} (hes : ∀ e ∈ es, EvM M0 S0 e) : ∀ op ∈ MemOp.ofEvents 0 fn pos es, Ok0 (ShN Wg) (OwnF X) (RdF X) j op := by
  intro op hop
  obtain ⟨h1, e, he, ha⟩ := mem_ofEvents hop
  refine ⟨h1, fun x hx => .inr ?_⟩
  rw [ha] at hx
  obtain ⟨h2, h3, h4⟩ := touch_evM (hes e he) hx
  have h5 : ow (blk x.loc) = .mn ∨ ow (blk x.loc) = .st := h4.imp (O.m0 _).1 fun h => O.s0 _ h.1
  refine ⟨fun hs => (by rw [shn_blk hs, O.wg] at h5; rcases h5 with h | h <;> cases h), fun k _ _ ho => (by rw [O.hm ho.2.2] at h5; rcases h5 with h | h <;> cases h), fun hw k _ _ hr => ?_⟩
  have h6 : ow (blk x.loc) = .mn := (O.m0 _).1 (h4.elim id fun h => by rw [h.2] at hw; cases hw)
  rcases hr.2 with ⟨_, h7⟩ | h7
  · rw [O.hs h7] at h6; cases h6
  · rw [h7] at h6
    rcases O.hc (k - 1) with h8 | h8 <;> (rw [show blk (.obj (X (k - 1)).c) = (X (k - 1)).c from rfl, h8] at h6; cases h6)
theorem low_app (hl : ∀ i a, touchAt t i = some a → a.loc.isMemory = true → blk a.loc < w.heap.size) (hsz : w.heap.size ≤ w'.heap.size) (hu : ∀ op ∈ u, ∀ x, op.act.touch? = some x → x.loc.isMemory = true → blk x.loc < w'.heap.size) :
    ∀ i a, touchAt (t ++ u) i = some a → a.loc.isMemory = true → blk a.loc < w'.heap.size := fun i a ha hm => by
  obtain ⟨x, hx, hxa⟩ := touch_of ha
  rcases getElem?_append_cases hx with ⟨_, hx'⟩ | ⟨_, hxu⟩
  · exact Nat.lt_of_lt_of_le (hl i a (by rw [touchAt_of hx']; exact hxa) hm) hsz
  · exact hu x hxu a hxa hm
theorem norel_evM {M S : Nat → Prop} {g : Nat} {fn : FuncId} {pos : String} {es : Array Event} (hes : ∀ e ∈ es, EvM M S e) : ∀ op ∈ MemOp.ofEvents g fn pos es, op.act ≠ .mark (.release (stA Wg)) := by
  intro op hop
  obtain ⟨_, e, he, ha⟩ := mem_ofEvents hop
  rw [ha]
  obtain ⟨loc, wr, sy⟩ := e
  rcases hes _ he with ⟨a, rfl, _⟩ | ⟨r, rfl, rfl, _⟩ | h
  · cases wr <;> cases sy <;> simp [MemAct.ofEvent]
  · cases wr <;> simp [MemAct.ofEvent]
  · cases h; simp [MemAct.ofEvent]
theorem deaf_evM {M S : Nat → Prop} {es : Array Event} (hes : ∀ e ∈ es, EvM M S e) (d : Nat) : deafBehind d es = d := by
  unfold deafBehind
  rw [← Array.foldl_toList]
  have : ∀ (l : List Event), (∀ e ∈ l, EvM M S e) → ∀ d, l.foldl (fun d e => match e.loc with | .mark .disable => d + 1 | .mark .enable => d - 1 | _ => d) d = d := by
    intro l
    induction l with
    | nil => intro _ d; rfl
    | cons e l ih =>
      intro h d
      rw [List.foldl_cons]
      rcases h e (by simp) with ⟨a, ha, _⟩ | ⟨r, hr, _⟩ | rfl
      · rw [ha]; exact ih (fun e he => h e (by simp [he])) d
      · rw [hr]; exact ih (fun e he => h e (by simp [he])) d
      · exact ih (fun e he => h e (by simp [he])) d
  exact this _ (fun e he => hes e (by simpa using he)) d
end
end

end Go.Proofs.Ytkbfcaaihellfaa
