/- Steps on the way to the law; each part says what it proves. -/
import Derived.Test.YtkbfcaaihellfaaU2
import Derived.Test.YtkbfcaaihellfaaU1
import Derived.Conc.Strewn
import Derived.Conc.CrowdRun

set_option linter.unusedSimpArgs false

/- The operations of code that neither communicates nor calls the library, all of them: what they may list, to what they come. No program in sight. -/
namespace Go.Proofs.Ytkbfcaaihellfaa
open Go.Conc Go.ConcN
set_option linter.unusedVariables false
set_option linter.unusedSectionVars false
set_option linter.unusedSimpArgs false

section
variable {P : Program} {α β : Type}
def okT (P : Program) (t : TypeId) : Bool := match P.underlying t with
  | some (.int _) | some .bool | some (.slice _) => true
  | _ => false
theorem okT_cases {t : TypeId} {d : TypeDesc} (h : okT P t = true) (hd : P.underlying t = some d) : (∃ k, d = .int k) ∨ d = .bool ∨ ∃ e, d = .slice e := by
  unfold okT at h
  rw [hd] at h
  cases d <;> simp at h ⊢
def okI (P : Program) (t : TypeId) : Bool := match P.underlying t with
  | some (.int _) => true
  | _ => false
theorem okI_cases {t : TypeId} {d : TypeDesc} (h : okI P t = true) (hd : P.underlying t = some d) : ∃ k, d = .int k := by
  unfold okI at h
  rw [hd] at h
  cases d <;> simp at h ⊢
set_option maxHeartbeats 8000000 in
theorem nomT_equalIn {t : TypeId} {x y : Value} {n : Nat} (ht : okT P t = true) : NoT P (Op.equalIn (n + 1) t x y) := by
  unfold Op.equalIn
  refine nomQ_bind nomQ_underlying fun d hd => ?_
  rcases okT_cases ht hd with ⟨k, rfl⟩ | rfl | ⟨e, rfl⟩
  · cases x <;> (cases y <;> (first | exact nomT_stuck | exact nomT_unsupported | exact nomT_pure | skip))
    all_goals dsimp only
    all_goals (repeat' (first | with_reducible assumption | with_reducible exact nomT_pure .. | with_reducible exact nomT_stuck .. | with_reducible exact nomT_unsupported .. | with_reducible exact nomT_choose .. | with_reducible exact nomT_program .. | with_reducible exact nomT_typeInfo .. | with_reducible exact nomT_sizeOf .. | with_reducible exact nomT_typeStr .. | with_reducible exact nomT_runtimePanic .. | with_reducible exact nomT_behindNumber .. | with_reducible exact nomT_byteOf .. | with_reducible refine nomQ_shape ?_ (fun _ => ?_) | (with_reducible intro _ _; exact .inl rfl) | with_reducible refine nomT_bind ?_ (fun _ => ?_) | with_reducible refine nomT_map ?_ | with_reducible refine nomT_ite ?_ ?_ | contradiction | split | dsimp only | intro _))
  · cases x <;> (cases y <;> (first | exact nomT_stuck | exact nomT_unsupported | exact nomT_pure | skip))
    all_goals dsimp only
    all_goals (repeat' (first | with_reducible assumption | with_reducible refine nomQ_shape ?_ (fun _ => ?_) | (with_reducible intro _ _; exact .inl rfl) | with_reducible refine nomT_bind ?_ (fun _ => ?_) | with_reducible refine nomT_map ?_ | with_reducible refine nomT_ite ?_ ?_ | contradiction | split | dsimp only | intro _))
  · cases x <;> (cases y <;> (first | exact nomT_stuck | exact nomT_unsupported | exact nomT_pure | skip))
    all_goals dsimp only
    all_goals (repeat' (first | with_reducible assumption | with_reducible exact nomT_pure .. | with_reducible exact nomT_stuck .. | with_reducible exact nomT_unsupported .. | with_reducible exact nomT_choose .. | with_reducible exact nomT_program .. | with_reducible exact nomT_typeInfo .. | with_reducible exact nomT_sizeOf .. | with_reducible exact nomT_typeStr .. | with_reducible exact nomT_runtimePanic .. | with_reducible exact nomT_behindNumber .. | with_reducible exact nomT_byteOf .. | with_reducible refine nomQ_shape ?_ (fun _ => ?_) | (with_reducible intro _ _; exact .inl rfl) | with_reducible refine nomT_bind ?_ (fun _ => ?_) | with_reducible refine nomT_map ?_ | with_reducible refine nomT_ite ?_ ?_ | contradiction | split | dsimp only | intro _))
theorem nomT_equal {t : TypeId} {x y : Value} (ht : okT P t = true) : NoT P (Op.equal t x y) := nomT_equalIn (n := 9999) ht
theorem nomT_eqGuardIn {t : TypeId} {x y : Value} (ht : okT P t = true) : NoT P (Op.eqGuardIn Op.maxDepth t x y) := by
  change NoT P (Op.eqGuardIn (9999 + 1) t x y)
  unfold Op.eqGuardIn
  refine nomQ_bind nomQ_underlying fun d hd => ?_
  rcases okT_cases ht hd with ⟨k, rfl⟩ | rfl | ⟨e, rfl⟩ <;> exact nomT_pure
theorem nomT_eqGuard {op : BinOp} {t : TypeId} {x y : Operand} {a b : Value} (ht : okT P t = true) : NoT P (eqGuard op t x y a b) := by
  have hg := fun x y => nomT_eqGuardIn (x := x) (y := y) ht
  unfold eqGuard
  repeat' (first | with_reducible exact hg _ _ | with_reducible exact nomT_pure | with_reducible exact nomT_unsupported | with_reducible exact nomT_program | with_reducible refine nomT_bind ?_ (fun _ => ?_) | split | dsimp only | intro _)
theorem nomT_ifPtr {d : TypeDesc} (h : (∃ k, d = .int k) ∨ d = .bool ∨ ∃ e, d = .slice e) {s s' : Sem α} (hs : NoT P s') : NoT P (if (match d with | .unsafePointer => true | _ => false) = true then s else s') := by
  rcases h with ⟨k, rfl⟩ | rfl | ⟨e, rfl⟩ <;> exact hs
theorem nomT_binOp {op : BinOp} {t : TypeId} {x y : Value} (ht : okT P t = true) : NoT P (binOp op t x y) := by
  have he := fun x y => nomT_equal (x := x) (y := y) ht
  unfold binOp
  split
  all_goals first | (refine nomQ_bind nomQ_underlying (fun d hd => ?_); exact nomT_ifPtr (okT_cases ht hd) nomT_movedNumber) | skip
  all_goals (repeat' (first | with_reducible assumption | with_reducible exact he _ _ | with_reducible exact nomT_pure .. | with_reducible exact nomT_stuck .. | with_reducible exact nomT_unsupported .. | with_reducible exact nomT_underlying .. | with_reducible exact nomT_behindNumber .. | with_reducible exact nomT_movedNumber .. | with_reducible exact nomT_movedPointer .. | with_reducible exact nomT_intArith .. | with_reducible exact nomT_intDiv .. | with_reducible exact nomT_intBits .. | with_reducible exact nomT_shift .. | with_reducible exact nomT_intCmp .. | with_reducible exact nomT_stringOp .. | with_reducible exact nomT_floatArith .. | with_reducible exact nomT_floatCmp .. | with_reducible exact nomT_complexOp .. | with_reducible exact nomT_addrSub .. | with_reducible exact nomT_addrCmp .. | with_reducible exact nomT_addrMod .. | with_reducible refine nomQ_shape ?_ (fun _ => ?_) | (with_reducible intro _ _; exact .inl rfl) | with_reducible refine nomT_bind ?_ (fun _ => ?_) | with_reducible refine nomT_map ?_ | with_reducible refine nomT_ite ?_ ?_ | contradiction | split | dsimp only | intro _))
theorem nomT_convert {s d : TypeId} {x : Value} (hs : okI P s = true) (hd : okI P d = true) : NoT P (convert s d x) := by
  unfold convert
  refine nomQ_bind nomQ_underlying fun a ha => ?_
  obtain ⟨k, rfl⟩ := okI_cases hs ha
  refine nomQ_bind nomQ_underlying fun b hb => ?_
  obtain ⟨k', rfl⟩ := okI_cases hd hb
  have h1 : ∀ n, NoT P (Conv.intToInt k' n) := fun n => nomT_pure
  have h2 : ∀ a b, NoT P (Conv.floatToInt a b k') := fun a b => by
    unfold Conv.floatToInt
    all_goals (repeat' (first | with_reducible assumption | with_reducible exact nomT_pure .. | with_reducible exact nomT_choose .. | with_reducible refine nomQ_shape ?_ (fun _ => ?_) | (with_reducible intro _ _; exact .inl rfl) | with_reducible refine nomT_bind ?_ (fun _ => ?_) | with_reducible refine nomT_map ?_ | with_reducible refine nomT_ite ?_ ?_ | contradiction | split | dsimp only | intro _))
  cases x
  case pointer a => cases a <;> exact nomT_unsupported
  all_goals first | exact nomT_unsupported | exact h1 _ | exact h2 _ _
theorem nomT_unary {op : UnOp} {x : Value} : NoT P (Op.unary op x) := by
  unfold Op.unary
  all_goals (repeat' (first | with_reducible assumption | with_reducible exact nomT_pure .. | with_reducible exact nomT_stuck .. | with_reducible exact nomT_unsupported .. | with_reducible exact nomT_intArith .. | with_reducible exact nomT_intBits .. | with_reducible refine nomQ_shape ?_ (fun _ => ?_) | (with_reducible intro _ _; exact .inl rfl) | with_reducible refine nomT_bind ?_ (fun _ => ?_) | with_reducible refine nomT_map ?_ | with_reducible refine nomT_ite ?_ ?_ | contradiction | split | dsimp only | intro _))
theorem dm_holdsCells {a : Addr} {n : Nat} : Dm P true (Builtin.holdsCells a n) := fun s => by
  rcases s with _ | ⟨t, k⟩ <;> exact rfl
theorem dm_mayShare {s l n : Nat} {b : Option Addr} {x : Value} : Dm P true (Builtin.mayShare s l n b x) := by
  have h2 : ∀ there : Bool, Dm P true (if (!there) = true then (pure true : Sem Bool) else match x with
      | .slice (some c) _ _ => do pure (!(← Builtin.holdsCells c (n * s)) || b.any (·.block == c.block))
      | _ => pure false) := fun there => by
    cases there
    · exact rfl
    · simp only [Bool.not_true, Bool.false_eq_true, if_false]
      split
      · refine dm_bindM dm_holdsCells (fun _ _ => ?_)
        exact rfl
      · exact rfl
  unfold Builtin.mayShare
  cases b with
  | none => exact h2 true
  | some a =>
    refine dm_bindM dm_holdsCells (fun x _ => ?_)
    refine dm_bindM (b := true) (show Dm P true (frozen _) from fun _ => rfl) (fun y _ => ?_)
    exact h2 _
theorem nomT_lenOf {x : Value} : NoT P (Builtin.lenOf x) := by
  unfold Builtin.lenOf
  all_goals (repeat' (first | with_reducible assumption | with_reducible exact nomT_pure .. | with_reducible exact nomT_stuck .. | with_reducible refine nom_doomB dm_mayShare (fun _ => ?_) | with_reducible refine nomQ_shape ?_ (fun _ => ?_) | (with_reducible intro _ _; exact .inl rfl) | with_reducible refine nomT_bind ?_ (fun _ => ?_) | with_reducible refine nomT_map ?_ | with_reducible refine nomT_ite ?_ ?_ | contradiction | split | dsimp only | intro _))
theorem nomT_firstCells {s n : Nat} {x : Value} : NoT P (Builtin.firstCells s n x) := by
  unfold Builtin.firstCells
  all_goals (repeat' (first | with_reducible assumption | with_reducible exact nomT_pure .. | with_reducible exact nomT_stuck .. | with_reducible exact nomT_loadCells .. | with_reducible refine nom_doomB dm_mayShare (fun _ => ?_) | with_reducible refine nomQ_shape ?_ (fun _ => ?_) | (with_reducible intro _ _; exact .inl rfl) | with_reducible refine nomT_bind ?_ (fun _ => ?_) | with_reducible refine nomT_map ?_ | with_reducible refine nomT_ite ?_ ?_ | contradiction | split | dsimp only | intro _))
set_option maxHeartbeats 2000000 in
theorem nomT_append {ats : Array TypeId} {t : TypeId} {as : Array Value} : NoT P (Builtin.append_ ats t as) := by
  unfold Builtin.append_
  all_goals (repeat' (first | with_reducible assumption | with_reducible exact nomT_pure .. | with_reducible exact nomT_stuck .. | with_reducible exact nomT_choose .. | with_reducible exact nomT_askRoom .. | with_reducible exact nomT_underlying .. | with_reducible exact nomT_typeInfo .. | with_reducible exact nomT_zeroValue .. | with_reducible exact nomT_sizeOf .. | with_reducible exact nomT_storeCells .. | with_reducible exact nomT_newRow .. | with_reducible exact nomT_runtimePanic .. | with_reducible exact nomT_asInt .. | with_reducible exact nomT_lenOf .. | with_reducible exact nomT_firstCells .. | with_reducible refine nom_doomB dm_mayShare (fun _ => ?_) | with_reducible refine nomQ_shape ?_ (fun _ => ?_) | (with_reducible intro _ _; exact .inl rfl) | with_reducible refine nomT_bind ?_ (fun _ => ?_) | with_reducible refine nomT_map ?_ | with_reducible refine nomT_ite ?_ ?_ | contradiction | split | dsimp only | intro _))
  all_goals first | exact ⟨rfl, trivial⟩ | exact trivial
theorem nomT_len {ats : Array TypeId} {t : TypeId} {as : Array Value} : NoT P (Builtin.len_ ats t as) := by
  unfold Builtin.len_
  all_goals (repeat' (first | with_reducible assumption | with_reducible exact nomT_pure .. | with_reducible exact nomT_stuck .. | with_reducible exact nomT_getObj .. | with_reducible exact nomT_underlying .. | with_reducible refine nom_doomB dm_mayShare (fun _ => ?_) | with_reducible refine nomQ_shape ?_ (fun _ => ?_) | (with_reducible intro _ _; exact .inl rfl) | with_reducible refine nomT_bind ?_ (fun _ => ?_) | with_reducible refine nomT_map ?_ | with_reducible refine nomT_ite ?_ ?_ | contradiction | split | dsimp only | intro _))
theorem nomT_min2 {x y : Value} : NoT P (Builtin.min2 x y) := by
  unfold Builtin.min2
  all_goals (repeat' (first | with_reducible assumption | with_reducible exact nomT_pure .. | with_reducible exact nomT_stuck .. | with_reducible exact nomT_unsupported .. | with_reducible exact nomT_choose .. | with_reducible exact nomT_asBool .. | with_reducible exact nomT_stringOp .. | with_reducible refine nom_doomB dm_mayShare (fun _ => ?_) | with_reducible refine nomQ_shape ?_ (fun _ => ?_) | (with_reducible intro _ _; exact .inl rfl) | with_reducible refine nomT_bind ?_ (fun _ => ?_) | with_reducible refine nomT_map ?_ | with_reducible refine nomT_ite ?_ ?_ | contradiction | split | dsimp only | intro _))
theorem nomT_foldlM {γ δ : Type} {f : γ → δ → Sem γ} (h : ∀ x y, NoT P (f x y)) : ∀ (l : List δ) (x : γ), NoT P (l.foldlM f x)
  | [], x => trivial
  | y :: l, x => by
    rw [List.foldlM_cons]
    exact nomT_bind (h x y) fun _ => nomT_foldlM h l _
theorem nomT_min {ats : Array TypeId} {t : TypeId} {as : Array Value} : NoT P (Builtin.min_ ats t as) := by
  unfold Builtin.min_
  split
  · exact nomT_stuck
  · exact nomT_foldlM (fun x y => nomT_min2) _ _
theorem nomT_followBlind : ∀ (l : List FieldStep) (t : TypeId) (x : Option Value), NoT P (followBlind l t x)
  | [], t, x => trivial
  | s :: rest, t, x => by
    have ih := fun t x => nomT_followBlind rest t x
    unfold followBlind
    repeat' (first | with_reducible exact ih _ _ | with_reducible exact nomT_pure | with_reducible exact nomT_stuck | with_reducible exact nomT_underlying | with_reducible exact nomT_part | with_reducible refine nomT_bind ?_ (fun _ => ?_) | split | dsimp only | intro _)
theorem nomT_nilAhead : ∀ (n : Nat) (t : TypeId) (v : Value) (name : String), NoT P (nilAhead n t v name)
  | 0, t, v, name => trivial
  | n + 1, t, v, name => by
    have ih := fun t v s => nomT_nilAhead n t v s
    unfold nilAhead
    repeat' (first | with_reducible exact ih _ _ _ | with_reducible exact nomT_followBlind _ _ _ | with_reducible exact nomT_pure | with_reducible exact nomT_stuck | with_reducible exact nomT_underlying | with_reducible exact nomT_typeInfo | with_reducible refine nomT_bind ?_ (fun _ => ?_) | split | dsimp only | intro _)
end
end Go.Proofs.Ytkbfcaaihellfaa

/- Plain code (no goroutines, no defers, no call of a value): each step of a goroutine that runs it. No program in sight. -/
namespace Go.Proofs.Ytkbfcaaihellfaa
open Go.Conc Go.ConcN
set_option linter.unusedVariables false
set_option linter.unusedSectionVars false
set_option linter.unusedSimpArgs false

section
variable {P : Program} {F : FuncId → Bool}
/-- the operations of plain code; F: the functions that it may call -/
def okOp (P : Program) (F : FuncId → Bool) : Op → Bool
  | .move _ | .assign _ | .pick .. | .box .. | .build .. | .buildSlice .. | .load .. | .store .. | .makeInterface .. | .makeSlice .. | .slice .. | .fieldAddr .. | .indexAddr .. | .extract .. | .panic _ | .nilCheck _ | .unOp .. => true
  | .binOp _ t _ _ _ => okT P t
  | .convert s d _ => okI P s && okI P d
  | .call { callee := .value (.func f), .. } => F f
  | .call { callee := .builtin b, .. } => match b with
    | .append | .len | .min => true
    | _ => false
  | _ => false
/-- To what an operation of plain code comes. -/
def OkNext (F : FuncId → Bool) (n : Next) : Prop := (∃ v, n = .value v) ∨ n = .skip ∨ ∃ f args, n = .enter f args ∧ F f = true
structure Callable (P : Program) (F : FuncId → Bool) : Prop where
  fn : ∀ f, F f = true → ∃ fn, P.funcs[f]? = some fn ∧ (fn.name == "runtime.NumGoroutine") = false ∧ fn.body.isNone = false
theorem nom_v {s : Sem Value} (h : NoT P s) : NoM P (OkNext F) (do pure (.value (← s))) := nomT_bind h fun v => .inl ⟨v, rfl⟩
theorem nom_u {s : Sem Unit} (h : NoT P s) : NoM P (OkNext F) (do s; pure .skip) := nomT_bind h fun _ => .inr (.inl rfl)
theorem nom_rp {e : RuntimeError} {Q : Next → Prop} : NoM P Q (runtimePanic e : Sem Next) := by
  unfold runtimePanic
  refine nomT_bind nomT_program fun p => ?_
  cases e <;> dsimp only
  all_goals first | exact trivial | skip
  · exact nomT_bind nomT_elemOf fun _ => nomT_bind nomT_newVar fun _ => trivial
  · exact nomT_bind nomT_elemOf fun _ => nomT_bind nomT_newVar fun _ => trivial
theorem nom_call (hC : Callable P F) {f : FuncId} {args : Array Value} (hf : F f = true) : NoM P (OkNext F) (callFunc f args) := by
  obtain ⟨fn, h1, h2, h3⟩ := hC.fn f hf
  show NoM P (OkNext F) (match P.funcs[f]? with | none => _ | some fn => _)
  rw [h1]
  simp only [h2, h3, Bool.false_eq_true, if_false]
  exact .inr (.inr ⟨f, args, rfl, hf⟩)
theorem nom_exec (hC : Callable P F) {o : Oper} {ρ : Operand → Value} (hρ : ∀ f, ρ (.func f) = .func (.func f) #[] #[]) (h : okOp P F o.op = true) : NoM P (OkNext F) (execOp ρ o) := by
  obtain ⟨dst, op, ty, pos, aft, gd⟩ := o
  cases op <;> simp only [okOp, Bool.false_eq_true] at h
  case move x => exact .inl ⟨_, rfl⟩
  case assign x => exact .inl ⟨_, rfl⟩
  case pick c a b => exact nomT_bind nomT_asBool fun _ => .inl ⟨_, rfl⟩
  case box => exact nom_v nomT_box
  case build => exact nom_v nomT_build
  case buildSlice => exact nom_v nomT_buildSlice
  case load => exact nom_v nomT_loadAt
  case store => exact nom_u nomT_storeAt
  case nilCheck x =>
    unfold execOp
    dsimp only
    generalize ρ x = v
    split
    · exact nom_rp
    · exact nom_rp
    · exact nom_rp
    · split
      · exact nom_rp
      · refine nomT_bind nomT_program fun _ => nomT_bind (nomT_nilAhead _ _ _ _) fun _ => ?_
        split
        · exact nomT_bind nomT_unsupported fun _ => .inl ⟨_, rfl⟩
        · exact .inl ⟨_, rfl⟩
      · exact .inl ⟨_, rfl⟩
    · exact .inl ⟨_, rfl⟩
  case binOp op t x y t' => exact nom_v (nomT_bind (nomT_eqGuard h) fun _ => nomT_binOp h)
  case unOp => exact nom_v nomT_unary
  case convert => simp only [Bool.and_eq_true] at h; exact nom_v (nomT_convert h.1 h.2)
  case makeInterface => exact nom_v nomT_makeInterface
  case makeSlice => exact nom_v nomT_makeSlice
  case slice => exact nom_v nomT_sliceAt
  case fieldAddr => exact nom_v nomT_fieldAt
  case indexAddr => exact nom_v nomT_indexAt
  case extract => exact nom_v nomT_extract
  case panic => exact nom_v nomT_ipanic
  case call c =>
    obtain ⟨cl, args, ats⟩ := c
    cases cl with
    | value f =>
      cases f with
      | func f => exact nomQ_bind (Q' := fun d => d.target = .fn (.func f) #[]) (by unfold resolve; dsimp only; rw [hρ]; exact rfl) fun d hd => (by unfold invoke; rw [hd]; exact nom_call hC h)
      | _ => cases h
    | invoke => cases h
    | builtin b =>
      cases b <;> simp only [Bool.false_eq_true] at h
      · exact nom_v nomT_append
      · exact nom_v nomT_len
      · exact nom_v nomT_min
end
end Go.Proofs.Ytkbfcaaihellfaa

/- Many goroutines: 'on every schedule the run ends well', as an inductive predicate over six kinds of steps. No program in sight. -/
namespace Go.Proofs.Ytkbfcaaihellfaa
open Go.Conc Go.ConcN
set_option linter.unusedVariables false
set_option linter.unusedSectionVars false

def SbL (Sb : Nat → Prop) (l : Loc) : Prop := l.isMemory = true ∧ Sb (blk l)
/-- no plain touch of a shunned block -/
def Shy (Sb : Nat → Prop) (e : Event) : Prop := ∀ x, (MemAct.ofEvent e).touch? = some x → SbL Sb x.loc → x.kind ≠ .plain
theorem Shy.none {Sb : Nat → Prop} {e : Event} (h : (MemAct.ofEvent e).touch? = none) : Shy Sb e := fun x hx => by rw [h] at hx; cases hx
theorem Shy.mono {Sb Sb' : Nat → Prop} {e : Event} (h : Shy Sb' e) (hs : ∀ b, Sb b → Sb' b) : Shy Sb e := fun x hx hb => h x hx ⟨hb.1, hs _ hb.2⟩
theorem shy_cell {Sb : Nat → Prop} {a : Addr} {wr s : Bool} (h : ¬ Sb a.block) : Shy Sb ⟨.cell a, wr, s⟩ := fun x hx hb => by
  have : x.loc = .cell a := by cases wr <;> cases s <;> (simp [MemAct.ofEvent, MemAct.touch?] at hx; subst hx; rfl)
  rw [this] at hb
  exact absurd hb.2 h

section
variable (P : Program) (Sb : Nat → Prop)
/-- THE SIX KINDS OF STEPS of goroutine i. -/
inductive CS (gs : Array Goroutine) (w : World) (i : Nat) : Array Goroutine → World → Array MemOp → Prop
  | go {g g' : Goroutine} {w' : World} {es : Array Event} : gs[i]? = some g → stepG P (i == 0) g w = .go g' w' es → (∀ e ∈ es, Shy Sb e) → CS gs w i ((gs.map (woken P g g' w')).setIfInBounds i g') w' (MemOp.ofEvents i g.frame.fn g.frame.place es)
  | spawn {g g' child : Goroutine} {w' : World} : i = 0 → gs[i]? = some g → stepG P (i == 0) g w = .spawn g' child w' #[] →
      CS gs w i ((gs.setIfInBounds i g').push child) w' #[{ g := i, fn := g.frame.fn, pos := g.frame.place, act := .go gs.size }, { g := gs.size, fn := child.frame.fn, pos := g.frame.place, act := .start }]
  | waits {g g₂ : Goroutine} {w₁ : World} {cases : Array CommCase} {shape : CommShape} : gs[i]? = some g → stepG P (i == 0) g w = .comm g₂ cases true shape w₁ #[] → (∀ cc ∈ cases, NoWays w₁ (gs.setIfInBounds i ph) cc) →
      CS gs w i (gs.setIfInBounds i (parked g₂ cases shape)) w₁ #[]
  | sendMeets {g g₂ gj : Goroutine} {w₁ : World} {c cap s r j : Nat} {v z zj : Value} {blocking tm : Bool} {shape shj : CommShape} {buf : Array Value} : gs[i]? = some g → stepG P (i == 0) g w = .comm g₂ #[scase c v z] blocking shape w₁ #[] → w₁.heap[c]? = some (.chan cap buf false s r tm) →
      j ≠ i → gs[j]? = some (parked gj #[rcase c zj] shj) → partners (gs.setIfInBounds i ph) c false = [(j, 0)] →
      CS gs w i ((gs.setIfInBounds j (gj.finishComm P #[rcase c zj] shj 0 v true)).setIfInBounds i (g₂.finishComm P #[scase c v z] shape 0 undef false)) (w₁.setChan c cap buf false (s + 1) (r + 1) tm)
        #[{ g := i, fn := g₂.frame.fn, pos := g₂.frame.place, act := .send c s }, { g := j, fn := gj.frame.fn, pos := gj.frame.place, act := .recv c r cap }, { g := i, fn := g₂.frame.fn, pos := g₂.frame.place, act := .sendDone c s }, { g := j, fn := gj.frame.fn, pos := gj.frame.place, act := .recvDone c r }]
  | recvMeets {g g₂ gj : Goroutine} {w₁ : World} {c cap s r j : Nat} {v z zj : Value} {blocking closed tm : Bool} {shape shj : CommShape} : gs[i]? = some g → stepG P (i == 0) g w = .comm g₂ #[rcase c z] blocking shape w₁ #[] → w₁.heap[c]? = some (.chan cap #[] closed s r tm) →
      j ≠ i → gs[j]? = some (parked gj #[scase c v zj] shj) → partners (gs.setIfInBounds i ph) c true = [(j, 0)] →
      CS gs w i ((gs.setIfInBounds j (gj.finishComm P #[scase c v zj] shj 0 undef false)).setIfInBounds i (g₂.finishComm P #[rcase c z] shape 0 v true)) (w₁.setChan c cap #[] closed (s + 1) (r + 1) tm)
        #[{ g := j, fn := gj.frame.fn, pos := gj.frame.place, act := .send c s }, { g := i, fn := g₂.frame.fn, pos := g₂.frame.place, act := .recv c r cap }, { g := j, fn := gj.frame.fn, pos := gj.frame.place, act := .sendDone c s }, { g := i, fn := g₂.frame.fn, pos := g₂.frame.place, act := .recvDone c r }]
  | recvClosed {g g₂ : Goroutine} {w₁ : World} {c cap s r : Nat} {z : Value} {blocking tm : Bool} {shape : CommShape} : gs[i]? = some g → stepG P (i == 0) g w = .comm g₂ #[rcase c z] blocking shape w₁ #[] → w₁.heap[c]? = some (.chan cap #[] true s r tm) →
      partners (gs.setIfInBounds i ph) c true = [] →
      CS gs w i (gs.setIfInBounds i (g₂.finishComm P #[rcase c z] shape 0 z false)) w₁ #[{ g := i, fn := g₂.frame.fn, pos := g₂.frame.place, act := .recvClosed c }]

/-- What is said of the run's end: main's last step, the others' state. -/
def Fin (Post : Value → World → Prop) (gs : Array Goroutine) (v : Value) (w' : World) (t : Trace) : Prop :=
  Post v w' ∧ (∀ said, ¬ Race said t) ∧ t.HandedOver ∧ ∀ (i : Nat) (g : Goroutine), 0 < i → gs[i]? = some g → ∃ q, QuitsD P q (Deaf t i) g

/-- Whoever is picked, ends well or goes on in Q. -/
def Nx (Post : Value → World → Prop) (Q : Array Goroutine → World → Trace → Prop) (gs : Array Goroutine) (w : World) (t : Trace) : Prop :=
  (∀ g ∈ gs, awake g) ∧ ∀ (i : Nat) (g : Goroutine) (d : Nat), gs[i]? = some g → g.status = .running →
    (i = 0 ∧ ∃ v w' es, stepG P true g (w.at d) = .ended (.done v) w' es ∧ (∀ e ∈ es, Shy Sb e) ∧ Fin P Post gs v w' (t ++ MemOp.ofEvents 0 g.frame.fn g.frame.place es)) ∨
      ∃ gs' w' ops, CS P Sb gs (w.at d) i gs' w' ops ∧ (gs'.size ≠ gs.size → Deaf t 0 = 0) ∧ Q gs' w' (t ++ ops)
def N1 (Post : Value → World → Prop) (Q : Array Goroutine → World → Trace → Prop) (gs : Array Goroutine) (w : World) (t : Trace) : Prop :=
  (∃ (i : Nat) (g : Goroutine), gs[i]? = some g ∧ g.status = .running) ∧ Nx P Sb Post Q gs w t
/-- the least predicate that such steps and S lead into -/
def Lf (Post : Value → World → Prop) (S : Array Goroutine → World → Trace → Prop) (gs : Array Goroutine) (w : World) (t : Trace) : Prop :=
  ∀ Q : Array Goroutine → World → Trace → Prop, (∀ gs w t, N1 P Sb Post Q gs w t → S gs w t → Q gs w t) → Q gs w t
/-- On every schedule the run ends well, though k times whoever is blocked be woken for nothing. -/
def WnK (Post : Value → World → Prop) : Nat → Array Goroutine → World → Trace → Prop
  | 0 => Lf P Sb Post fun _ _ _ => True
  | k + 1 => Lf P Sb Post fun gs w t => WnK Post k (gs.map fun o => o.again w) w t
/-- ON EVERY SCHEDULE THE RUN ENDS WELL. -/
def Wn (Post : Value → World → Prop) (gs : Array Goroutine) (w : World) (t : Trace) : Prop := ∀ k, WnK P Sb Post k gs w t
end

section
variable {P : Program} {Sb : Nat → Prop} {Post : Value → World → Prop} {gs gs' : Array Goroutine} {w w' : World} {t : Trace} {i : Nat} {ops : Array MemOp}

theorem CS.run (h : CS P Sb gs w i gs' w' ops) (sl : Option (Nat × Nat)) : runT P (crowd gs w sl) i = (.next (crowd gs' w' sl), ops) := by
  cases h with
  | go h1 h2 _ => exact runT_crowd_go h1 h2
  | spawn h0 h1 h2 =>
    have := runT_crowd_spawn (P := P) (sl := sl) h1 h2
    rw [ofEvents_none] at this
    simpa using this
  | waits h1 h2 h3 => simpa [ofEvents_none] using crowd_waits (P := P) (sl := sl) h1 h2 h3
  | sendMeets h1 h2 h3 h4 h5 h6 => simpa [ofEvents_none] using crowd_send_meets (P := P) (sl := sl) h1 h2 h3 h4 h5 h6
  | recvMeets h1 h2 h3 h4 h5 h6 => simpa [ofEvents_none] using crowd_recv_meets (P := P) (sl := sl) h1 h2 h3 h4 h5 h6
  | recvClosed h1 h2 h3 h4 => simpa [ofEvents_none] using crowd_recv_closed (P := P) (sl := sl) h1 h2 h3 h4
theorem Nx.mono {Q Q' : Array Goroutine → World → Trace → Prop} (h : Nx P Sb Post Q gs w t) (hq : ∀ gs w t, Q gs w t → Q' gs w t) : Nx P Sb Post Q' gs w t :=
  ⟨h.1, fun i g d hi hr => (h.2 i g d hi hr).imp id fun ⟨gs', w', ops, h1, h2, h3⟩ => ⟨gs', w', ops, h1, h2, hq _ _ _ h3⟩⟩
theorem N1.mono {Q Q' : Array Goroutine → World → Trace → Prop} (h : N1 P Sb Post Q gs w t) (hq : ∀ gs w t, Q gs w t → Q' gs w t) : N1 P Sb Post Q' gs w t := ⟨h.1, h.2.mono hq⟩
theorem Lf.mk {S : Array Goroutine → World → Trace → Prop} (h : N1 P Sb Post (Lf P Sb Post S) gs w t) (hs : S gs w t) : Lf P Sb Post S gs w t := fun Q hQ => hQ _ _ _ (h.mono fun _ _ _ h' => h' Q hQ) hs
theorem Lf.ind {S Q : Array Goroutine → World → Trace → Prop} (hQ : ∀ gs w t, N1 P Sb Post (fun gs w t => Lf P Sb Post S gs w t ∧ Q gs w t) gs w t → S gs w t → Q gs w t) (h : Lf P Sb Post S gs w t) : Q gs w t :=
  (h (fun gs w t => Lf P Sb Post S gs w t ∧ Q gs w t) fun gs w t hn hs => ⟨Lf.mk (hn.mono fun _ _ _ h => h.1) hs, hQ gs w t hn hs⟩).2
theorem Lf.mono {S S' : Array Goroutine → World → Trace → Prop} (h : Lf P Sb Post S gs w t) (hs : ∀ gs w t, S gs w t → S' gs w t) : Lf P Sb Post S' gs w t :=
  Lf.ind (fun gs w t hn h => Lf.mk (hn.mono fun _ _ _ h => h.2) (hs _ _ _ h)) h
theorem map_still (hs : ∀ o ∈ gs, o.again w = o) : (gs.map fun o => o.again w) = gs := by
  apply Array.ext_getElem?
  intro i
  rw [Array.getElem?_map]
  cases hi : gs[i]? with
  | none => rfl
  | some o => simp [hs o (Array.mem_of_getElem? hi)]
/-- nobody can be woken -/
theorem Wn.mk (h1 : ∃ (i : Nat) (g : Goroutine), gs[i]? = some g ∧ g.status = .running) (hs : ∀ o ∈ gs, o.again w = o) (h : Nx P Sb Post (Wn P Sb Post) gs w t) : Wn P Sb Post gs w t := by
  intro k
  induction k with
  | zero => exact Lf.mk ⟨h1, h.mono fun _ _ _ h => h 0⟩ trivial
  | succ k ih => exact Lf.mk (S := fun (gs : Array Goroutine) (w : World) (t : Trace) => WnK P Sb Post k (gs.map fun o => o.again w) w t) ⟨h1, h.mono fun _ _ _ h => h (k + 1)⟩ (by rw [map_still hs]; exact ih)
theorem WnK.down : ∀ {k : Nat} {gs : Array Goroutine} {w : World} {t : Trace}, WnK P Sb Post (k + 1) gs w t → WnK P Sb Post k gs w t
  | 0, _, _, _, h => Lf.mono h fun _ _ _ _ => trivial
  | k + 1, _, _, _, h => Lf.mono h fun _ _ _ h' => WnK.down h'
theorem EndsWell.of (h : Wn P Sb Post gs w t) : ∀ sl, ∃ N last o w' t', runNT P (N + 1) (crowd gs w sl) t = (.ended o w', t') ∧ runN P N (crowd gs w sl) = .next last ∧ step P last = .ended o w' ∧ Go.Conc.Good P Post last o w' t' := by
  refine Lf.ind (S := fun _ _ _ => True) (Q := fun gs w t => ∀ sl, ∃ N last o w' t', runNT P (N + 1) (crowd gs w sl) t = (.ended o w', t') ∧ runN P N (crowd gs w sl) = .next last ∧ step P last = .ended o w' ∧ Go.Conc.Good P Post last o w' t') ?_ (h 0)
  rintro gs w t ⟨h1, ha, hn⟩ _ sl
  obtain ⟨i, g, d, sl', hg, hr, hst⟩ := crowd_pick (P := P) (w := w) (sl := sl) ha h1
  rcases hn i g d hg hr with ⟨rfl, v, w', es, hend, _, hp, hrc, hov, hq⟩ | ⟨gs', w', ops, hcs, _, _, hQ⟩
  · have hrun := runT_many_ended (P := P) (sl := sl') (i := 0) hg (show stepG P (0 == 0) g (w.at d) = _ from hend)
    have hE : stepT P (crowd gs w sl) = (.ended (.done v) w', MemOp.ofEvents 0 g.frame.fn g.frame.place es) := hst.trans hrun
    refine ⟨0, _, .done v, w', t ++ MemOp.ofEvents 0 g.frame.fn g.frame.place es, by simp [runNT, hE], rfl, by simp [step, hE], v, rfl, hp, hrc, hov, ⟨fun x hx => ?_, rfl⟩, fun j x hx hj => ?_⟩
    · obtain ⟨j, hj⟩ := List.mem_iff_getElem?.1 hx
      rw [List.getElem?_drop] at hj
      obtain ⟨q, hq⟩ := hq (1 + j) x (by omega) (by simpa [crowd] using hj)
      exact ⟨_, hq.leaves⟩
    · obtain ⟨q, hq⟩ := hq j x (by omega) hx
      exact ⟨q, hq.hears _⟩
  · obtain ⟨N, last, o, w'', t'', r1, r2, r3, r4⟩ := hQ sl'
    have hE : stepT P (crowd gs w sl) = (.next (crowd gs' w' sl'), ops) := hst.trans (hcs.run sl')
    refine ⟨N + 1, last, o, w'', t'', ?_, ?_, r3, r4⟩
    · rw [show N + 1 + 1 = 1 + (N + 1) by omega, runNT_add]
      simp only [runNT, hE]
      exact r1
    · rw [show N + 1 = 1 + N by omega, runN_add]
      have : step P (crowd gs w sl) = .next (crowd gs' w' sl') := by simp [step, hE]
      simp only [runN, this]
      exact r2
theorem Nx.at {Q : Array Goroutine → World → Trace → Prop} (h : Nx P Sb Post Q gs w t) (d : Nat) : Nx P Sb Post Q gs (w.at d) t := ⟨h.1, fun i g d' hi hr => h.2 i g d' hi hr⟩
theorem again_at (o : Goroutine) (w : World) (d : Nat) : o.again (w.at d) = o.again w := rfl
theorem N1.at {Q : Array Goroutine → World → Trace → Prop} (h : N1 P Sb Post Q gs w t) (d : Nat) : N1 P Sb Post Q gs (w.at d) t := ⟨h.1, h.2.at d⟩
theorem Lf.at {S : Array Goroutine → World → Trace → Prop} (hS : ∀ gs w t d, S gs w t → S gs (w.at d) t) (h : Lf P Sb Post S gs w t) (d : Nat) : Lf P Sb Post S gs (w.at d) t :=
  Lf.ind (Q := fun gs w t => Lf P Sb Post S gs (w.at d) t) (fun gs w t hn hs => Lf.mk ((hn.mono fun _ _ _ h => h.1).at d) (hS _ _ _ _ hs)) h
theorem WnK.at {k : Nat} {gs : Array Goroutine} {w : World} {t : Trace} (d : Nat) (h : WnK P Sb Post k gs w t) : WnK P Sb Post k gs (w.at d) t := by
  induction k generalizing gs w t d with
  | zero => exact Lf.at (P := P) (Sb := Sb) (Post := Post) (S := fun _ _ _ => True) (fun _ _ _ _ _ => trivial) h d
  | succ k ih =>
    have h' : Lf P Sb Post (fun gs w t => WnK P Sb Post k (gs.map fun o => o.again w) w t) gs w t := h
    refine Lf.at ?_ h' d
    exact fun gs w t d h => ih d h
theorem Wn.at (h : Wn P Sb Post gs w t) (d : Nat) : Wn P Sb Post gs (w.at d) t := fun k => (h k).at d
end
end Go.Proofs.Ytkbfcaaihellfaa

/- The model's code on a spliced tape, in a world some of whose rows are emptied: where it comes to a value there, it comes to that value in the true world, and touches no such row. No program in sight. -/
namespace Go.Proofs.Ytkbfcaaihellfaa
open Go.Conc Go.ConcN
set_option linter.unusedVariables false
set_option linter.unusedSectionVars false
set_option linter.unusedSimpArgs false

/-- v: the world in which the rows of Sb are emptied; w: the true one. Of tape and draws nothing is said. -/
structure PR (Sb : Nat → Prop) (v w : World) : Prop where
  size : v.heap.size = w.heap.size
  same : ∀ r, ¬ Sb r → v.heap[r]? = w.heap[r]?
  poi : ∀ r, Sb r → ∃ c t f, w.heap[r]? = some (.cells c t f) ∧ v.heap[r]? = some (.cells #[] t f)
  os : v.os = w.os
  output : v.output = w.output
/-- an entry that touches no emptied row -/
def Av (Sb : Nat → Prop) (e : Event) : Prop := (∀ a, e.loc = .cell a → ¬ Sb a.block) ∧ ∀ r, e.loc = .obj r → ¬ Sb r
theorem Av.shy {Sb : Nat → Prop} {e : Event} (h : Av Sb e) (hm : ∀ m, e.loc = .mark m → m = .noRoom) : Shy Sb e := fun x hx hb => by
  obtain ⟨loc, wr, sy⟩ := e
  obtain ⟨h1, h2⟩ := h
  cases loc with
  | cell a =>
    have : x.loc = .cell a := by cases wr <;> cases sy <;> (simp [MemAct.ofEvent, MemAct.touch?] at hx; subst hx; rfl)
    rw [this] at hb
    exact absurd hb.2 (h1 a rfl)
  | obj r =>
    have : x.loc = .obj r := by cases wr <;> cases sy <;> (first | (simp [MemAct.ofEvent, MemAct.touch?] at hx; done) | (simp [MemAct.ofEvent, MemAct.touch?] at hx; subst hx; rfl))
    rw [this] at hb
    exact absurd hb.2 (h2 r rfl)
  | mark m =>
    have := hm m rfl
    subst this
    simp [MemAct.ofEvent, MemAct.touch?] at hx
  | output =>
    have : x.loc = .output := by cases wr <;> cases sy <;> (simp [MemAct.ofEvent, MemAct.touch?] at hx; subst hx; rfl)
    rw [this] at hb
    cases hb.1
  | goroutines =>
    have : x.loc = .goroutines := by cases wr <;> cases sy <;> (simp [MemAct.ofEvent, MemAct.touch?] at hx; subst hx; rfl)
    rw [this] at hb
    cases hb.1

section
variable {Sb : Nat → Prop} {v w v' w' : World}
theorem PR.cell (h : PR Sb v w) {a : Addr} (ha : ¬ Sb a.block) : w.cell? a = v.cell? a := by simp only [World.cell?, h.same _ ha]
theorem PR.cellS (h : PR Sb v w) {a : Addr} (ha : Sb a.block) : v.cell? a = none := by
  obtain ⟨c, t, f, _, h2⟩ := h.poi _ ha
  simp [World.cell?, h2]
theorem PR.cell_some (h : PR Sb v w) {a : Addr} {x : Value} (hx : v.cell? a = some x) : ¬ Sb a.block ∧ w.cell? a = some x := by
  by_cases hs : Sb a.block
  · rw [h.cellS hs] at hx; cases hx
  · exact ⟨hs, (h.cell hs).trans hx⟩
theorem PR.frozen (h : PR Sb v w) (a : Addr) : w.frozen? a = v.frozen? a := by
  by_cases hs : Sb a.block
  · obtain ⟨c, t, f, h1, h2⟩ := h.poi _ hs
    simp [World.frozen?, h1, h2]
  · simp only [World.frozen?, h.same _ hs]
/-- a turn of one block that is not emptied -/
theorem PR.modify (h : PR Sb v w) {r : Nat} (hr : ¬ Sb r) (f : Obj → Obj) : PR Sb { v with heap := v.heap.modify r f } { w with heap := w.heap.modify r f } := by
  refine ⟨by simp [h.size], fun b hb => ?_, fun b hb => ?_, h.os, h.output⟩
  · simp only [Array.getElem?_modify]
    rw [h.same b hb]
  · have hne : r ≠ b := fun e => hr (by rw [e]; exact hb)
    simp only [Array.getElem?_modify, if_neg hne]
    exact h.poi b hb
theorem PR.setB (h : PR Sb v w) {r : Nat} (hr : ¬ Sb r) (o : Obj) : PR Sb { v with heap := v.heap.setIfInBounds r o } { w with heap := w.heap.setIfInBounds r o } := by
  refine ⟨by simp [h.size], fun b hb => ?_, fun b hb => ?_, h.os, h.output⟩
  · by_cases e : r = b
    · subst e
      simp only [Array.getElem?_setIfInBounds_self, h.size]
    · simp only [Array.getElem?_setIfInBounds_ne e]
      exact h.same b hb
  · have hne : r ≠ b := fun e => hr (by rw [e]; exact hb)
    simp only [Array.getElem?_setIfInBounds_ne hne]
    exact h.poi b hb
theorem PR.push (h : PR Sb v w) (hl : ∀ r, Sb r → r < v.heap.size) (o : Obj) : PR Sb { v with heap := v.heap.push o } { w with heap := w.heap.push o } := by
  refine ⟨by simp [h.size], fun b hb => ?_, fun b hb => ?_, h.os, h.output⟩
  · simp only [Array.getElem?_push, h.size, h.same b hb]
  · have hv := hl b hb
    have hw : b < w.heap.size := by rw [← h.size]; exact hv
    simp only [Array.getElem?_push, if_neg (Nat.ne_of_lt hv), if_neg (Nat.ne_of_lt hw)]
    exact h.poi b hb
theorem PR.lt (h : PR Sb v w) : ∀ r, Sb r → r < v.heap.size := fun r hr => by
  obtain ⟨c, t, f, _, h2⟩ := h.poi r hr
  exact (Array.getElem?_eq_some_iff.1 h2).1
theorem PR.freezeA (h : PR Sb v w) (a : Addr) (n : Nat) : PR Sb (v.freeze a n) (w.freeze a n) := by
  unfold World.freeze
  split
  · exact h
  · refine ⟨by simp [h.size], fun b hb => ?_, fun b hb => ?_, h.os, h.output⟩
    · simp only [Array.getElem?_modify]
      rw [h.same b hb]
    · obtain ⟨c, t, f, h1, h2⟩ := h.poi b hb
      simp only [Array.getElem?_modify, h1, h2]
      split
      · obtain ⟨lo, hi⟩ := f
        exact ⟨c, t, _, rfl, rfl⟩
      · exact ⟨c, t, f, rfl, rfl⟩
theorem PR.set (h : PR Sb v w) {a : Addr} (ha : ¬ Sb a.block) (x : Value) : PR Sb (v.setCell a x) (w.setCell a x) := h.modify ha _
theorem PR.draw (h : PR Sb v w) (d d' : Nat) : PR Sb { v with drawn := d } { w with drawn := d' } := ⟨h.size, h.same, h.poi, h.os, h.output⟩
theorem PR.noV (h : PR Sb v w) {r : Nat} (hs : Sb r) {o : Obj} (ho : v.heap[r]? = some o) : ∃ t f, o = .cells #[] t f := by
  obtain ⟨c, t, f, _, h2⟩ := h.poi r hs
  rw [h2] at ho
  cases ho
  exact ⟨t, f, rfl⟩

/-! ### memory seen as another type -/
theorem seenCells_nil {p : Program} {e : TypeId} : ∀ {n x s : Nat} {l : List (Nat × Nat × List UInt8)}, seenCells p #[] e n x s = .ok l → l = [] ∧ ∀ c, seenCells p c e n x s = .ok []
  | 0, x, s, l, h => by simp [seenCells] at h
  | n + 1, x, s, l, h => by
    unfold seenCells at h
    by_cases hx : x ≥ s
    · rw [if_pos hx] at h
      cases h
      refine ⟨rfl, fun c => ?_⟩
      unfold seenCells
      rw [if_pos hx]
    · rw [if_neg hx] at h
      simp only at h
      split at h
      · cases h
      · split at h
        · cases h
        · simp at h
theorem seen_same {p : Program} {at_ k : Addr} {u : TypeId} {b : Bool} (h : v.heap[at_.block]? = w.heap[at_.block]?) : w.seen p at_ u k b = v.seen p at_ u k b := by
  unfold World.seen
  rw [h]
theorem seen_poi {p : Program} {at_ k : Addr} {u t : TypeId} {b : Bool} {c : Array Value} {f : Nat × Nat} {r : Array Value × TypeId × (Nat × Nat) × Nat × Value × List (Nat × Nat × List UInt8)} (hv : v.heap[at_.block]? = some (.cells #[] t f)) (hw : w.heap[at_.block]? = some (.cells c t f)) (h : v.seen p at_ u k b = .ok r) :
    r.1 = #[] ∧ r.2.1 = t ∧ r.2.2.1 = f ∧ r.2.2.2.2.2 = [] ∧ w.seen p at_ u k b = .ok (c, r.2) := by
  have hw' : w.seen p at_ u k b = w.seen p at_ u k b := rfl
  conv at hw' => rhs; unfold World.seen
  unfold World.seen at h
  simp only [hv, hw, bind, Except.bind, throw, throwThe, MonadExceptOf.throw, instMonadExceptOfMonadExceptOf, pure, Except.pure] at h hw'
  split at h
  · cases h
  rename_i h1
  rw [if_neg h1] at hw'
  split at h
  case h_2 => cases h
  rename_i like hl
  simp only [hl] at hw'
  split at h
  case h_2 => cases h
  rename_i size hsz
  simp only [hsz] at hw'
  split at h
  case h_2 => cases h
  rename_i β hβ
  simp only [hβ] at hw'
  split at h
  · cases h
  rename_i h2
  rw [if_neg h2] at hw'
  split at h
  case h_2 => cases h
  rename_i b0 hb0
  simp only [hb0] at hw'
  split at h
  · cases h
  rename_i cells hc
  obtain ⟨rfl, hcw⟩ := seenCells_nil hc
  simp only [hcw] at hw'
  split at h
  · simp at h
  · rename_i hb
    rw [if_neg hb] at hw'
    cases h
    exact ⟨rfl, rfl, rfl, rfl, hw'⟩
end
end Go.Proofs.Ytkbfcaaihellfaa
