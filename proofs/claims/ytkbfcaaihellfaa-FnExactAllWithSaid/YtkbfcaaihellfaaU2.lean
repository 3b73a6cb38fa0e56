/- Steps on the way to the law; each part says what it proves. -/
import Derived.Test.YtkbfcaaihellfaaU1
import Derived.Laws.Sem

set_option linter.unusedSimpArgs false

/- The operations of code that neither communicates nor calls the library: what they may list. No program in sight. -/
namespace Go.Proofs.Ytkbfcaaihellfaa
open Go.Conc Go.ConcN
set_option linter.unusedVariables false
set_option linter.unusedSectionVars false
set_option linter.unusedSimpArgs false

section
variable {P : Program} {α β : Type}
abbrev NoT (P : Program) {α : Type} (s : Sem α) : Prop := NoM P (fun _ => True) s
theorem NoM.mono {Q Q' : α → Prop} (h : ∀ a, Q a → Q' a) : ∀ {s : Sem α}, NoM P Q s → NoM P Q' s := by
  intro s
  induction s with
  | pure a => exact h a
  | load m a k ih => exact fun x v => ih v (x v)
  | store m a v k ih => exact ih
  | new o k ih => exact fun x v => ih v (x v)
  | shape r k ih => exact fun x => ⟨fun v => ih v (x.1 v), x.2⟩
  | freeze a n k ih => exact ih
  | frozen a k ih => exact fun x v => ih v (x v)
  | getObj r k ih => exact fun x v => ih v (x v)
  | setObj r o k ih => exact ih
  | choose q k ih => exact fun x v => ih v (x v)
  | sys c k ih => exact fun x => ⟨fun r => ih r (x.1 r), x.2⟩
  | program k ih => exact fun x => ih P x
  | mark m k ih => exact fun x => ⟨x.1, ih x.2⟩
  | halt h' => exact id
theorem nv_bind {f : α → Sem β} : ∀ {s : Sem α}, Nv P s → Nv P (s.bind f) := by
  intro s
  induction s with
  | pure a => exact fun h => h.elim
  | load m a k ih => exact fun x v => ih v (x v)
  | store m a v k ih => exact ih
  | new o k ih => exact fun x v => ih v (x v)
  | shape r k ih => exact fun x v => ih v (x v)
  | freeze a n k ih => exact ih
  | frozen a k ih => exact fun x v => ih v (x v)
  | getObj r k ih => exact fun x v => ih v (x v)
  | setObj r o k ih => exact ih
  | choose q k ih => exact fun x v => ih v (x v)
  | sys c k ih => exact fun x v => ih v (x v)
  | program k ih => exact fun x => ih P x
  | mark m k ih => exact ih
  | halt h' => exact id
theorem dm_bind {b c : Bool} {f : α → Sem β} (hf : ∀ a, b = true → Dm P c (f a)) : ∀ {s : Sem α}, Dm P b s → Dm P c (s.bind f) := by
  intro s
  induction s with
  | pure a => exact hf a
  | load m a k ih => exact fun x v => ih v (x v)
  | store m a v k ih => exact ih
  | new o k ih => exact fun x v => ih v (x v)
  | shape r k ih => exact fun x v => ih v (x v)
  | freeze a n k ih => exact ih
  | frozen a k ih => exact fun x v => ih v (x v)
  | getObj r k ih => exact fun x v => ih v (x v)
  | setObj r o k ih => exact ih
  | choose q k ih => exact fun x v => ih v (x v)
  | sys c k ih => exact id
  | program k ih => exact fun x => ih P x
  | mark m k ih => exact fun x => ⟨x.1, ih x.2⟩
  | halt h' => exact id
theorem dm_bindF {f : α → Sem β} {s : Sem α} (h : Dm P false s) : Dm P false (s.bind f) := dm_bind (fun a e => by cases e) h
theorem nom_dm {Q : α → Prop} : ∀ {s : Sem α}, Dm P false s → NoM P Q s := by
  intro s
  induction s with
  | pure a => exact fun h => by cases h
  | load m a k ih => exact fun x v => ih v (x v)
  | store m a v k ih => exact ih
  | new o k ih => exact fun x v => ih v (x v)
  | shape r k ih => exact fun x => ⟨fun v => ih v (x v), fun t n => .inr (x _)⟩
  | freeze a n k ih => exact ih
  | frozen a k ih => exact fun x v => ih v (x v)
  | getObj r k ih => exact fun x v => ih v (x v)
  | setObj r o k ih => exact ih
  | choose q k ih => exact fun x v => ih v (x v)
  | sys c k ih => exact fun h => h.elim
  | program k ih => exact fun x => ih P x
  | mark m k ih => exact fun x => ⟨x.1, ih x.2⟩
  | halt h' => exact fun h => by cases h' <;> first | trivial | exact h.elim
theorem NoM.bind {Q : β → Prop} {f : α → Sem β} : ∀ {s : Sem α}, NoM P (fun a => NoM P Q (f a)) s → NoM P Q (s.bind f) := by
  intro s
  induction s with
  | pure a => exact id
  | load m a k ih => exact fun x v => ih v (x v)
  | store m a v k ih => exact ih
  | new o k ih => exact fun x v => ih v (x v)
  | shape r k ih => exact fun x => ⟨fun v => ih v (x.1 v), fun t n => (x.2 t n).imp (fun y => by show (k (some (t, 0))).bind f = (k (some (t, n))).bind f; rw [y]) dm_bindF⟩
  | freeze a n k ih => exact ih
  | frozen a k ih => exact fun x v => ih v (x v)
  | getObj r k ih => exact fun x v => ih v (x v)
  | setObj r o k ih => exact ih
  | choose q k ih => exact fun x v => ih v (x v)
  | sys c k ih => exact fun x => ⟨fun r => ih r (x.1 r), fun r => nv_bind (x.2 r)⟩
  | program k ih => exact fun x => ih P x
  | mark m k ih => exact fun x => ⟨x.1, ih x.2⟩
  | halt h' => exact id
theorem nomQ_bind {Q : β → Prop} {Q' : α → Prop} {s : Sem α} {f : α → Sem β} (h : NoM P Q' s) (hf : ∀ a, Q' a → NoM P Q (f a)) : NoM P Q (s >>= f) := NoM.bind (h.mono hf)
theorem nomT_bind {Q : β → Prop} {s : Sem α} {f : α → Sem β} (h : NoT P s) (hf : ∀ a, NoM P Q (f a)) : NoM P Q (s >>= f) := nomQ_bind h fun a _ => hf a
theorem nomT_map {s : Sem α} {f : α → β} (h : NoT P s) : NoT P (f <$> s) := NoM.bind (h.mono fun _ _ => trivial)
theorem dm_bindM {b c : Bool} {s : Sem α} {f : α → Sem β} (h : Dm P b s) (hf : ∀ a, b = true → Dm P c (f a)) : Dm P c (s >>= f) := dm_bind hf h
theorem nom_doomB {Q : β → Prop} {s : Sem α} {f : α → Sem β} (h : Dm P true s) (hf : ∀ a, Dm P false (f a)) : NoM P Q (s >>= f) := nom_dm (dm_bind (fun a _ => hf a) h)
theorem nomT_ite {Q : α → Prop} {c : Prop} [Decidable c] {s s' : Sem α} (h : NoM P Q s) (h' : NoM P Q s') : NoM P Q (if c then s else s') := by split <;> assumption
theorem nomT_pure {a : α} : NoT P (pure a) := trivial
theorem nomT_stuck {why : String} : NoT P (stuck why : Sem α) := trivial
theorem nomT_unsupported {u : Unsupported} : NoT P (unsupported u : Sem α) := trivial
theorem nomT_goPanic {v : Value} : NoT P (goPanic v : Sem α) := trivial
theorem nomT_load {a : Addr} {m : Mode} : NoT P (load a m) := fun _ => trivial
theorem nomT_store {a : Addr} {v : Value} {m : Mode} : NoT P (store a v m) := trivial
theorem nomT_newObj {o : Obj} : NoT P (newObj o) := fun _ => trivial
theorem nomQ_shape {Q : β → Prop} {r : Nat} {f : Option (TypeId × Nat) → Sem β} (hd : ∀ t n, f (some (t, 0)) = f (some (t, n)) ∨ Dm P false (f (some (t, 0)))) (hf : ∀ s, NoM P Q (f s)) : NoM P Q (shape r >>= f) := ⟨hf, hd⟩
theorem nomT_freeze {a : Addr} {n : Nat} : NoT P (freeze a n) := trivial
theorem nomT_frozen {a : Addr} : NoT P (frozen a) := fun _ => trivial
theorem nomT_getObj {r : Nat} : NoT P (getObj r) := fun _ => trivial
theorem nomT_setObj {r : Nat} {o : Obj} : NoT P (setObj r o) := trivial
theorem nomT_choose {q : Question} : NoT P (choose q) := fun _ => trivial
theorem nomT_program : NoT P program := trivial
theorem nomT_noRoom : NoT P (mark .noRoom) := ⟨rfl, trivial⟩
theorem nomT_askRoom {n : Nat} : NoT P (askRoom n) := by
  unfold askRoom
  all_goals (repeat' (first | with_reducible assumption | with_reducible exact nomT_pure .. | with_reducible exact nomT_noRoom .. | with_reducible refine nomQ_shape ?_ (fun _ => ?_) | (with_reducible intro _ _; exact .inl rfl) | with_reducible refine nomT_bind ?_ (fun _ => ?_) | with_reducible refine nomT_map ?_ | with_reducible refine nomT_ite ?_ ?_ | contradiction | split | dsimp only | intro _))
theorem nomQ_underlying {t : TypeId} : NoM P (fun d => P.underlying t = some d) (underlying t) := by
  show NoM P _ (match P.underlying t with | some d => (pure d : Sem TypeDesc) | none => stuck "no such type")
  cases h : P.underlying t with
  | none => trivial
  | some d => exact rfl
theorem nomT_underlying {t : TypeId} : NoT P (underlying t) := nomQ_underlying.mono fun _ _ => trivial
theorem nomT_typeInfo {t : TypeId} : NoT P (typeInfo t) := by
  unfold typeInfo
  all_goals (repeat' (first | with_reducible assumption | with_reducible exact nomT_pure .. | with_reducible exact nomT_stuck .. | with_reducible exact nomT_program .. | with_reducible refine nomQ_shape ?_ (fun _ => ?_) | (with_reducible intro _ _; exact .inl rfl) | with_reducible refine nomT_bind ?_ (fun _ => ?_) | with_reducible refine nomT_map ?_ | with_reducible refine nomT_ite ?_ ?_ | contradiction | split | dsimp only | intro _))
theorem nomT_zeroValue {t : TypeId} : NoT P (zeroValue t) := by
  unfold zeroValue
  all_goals (repeat' (first | with_reducible assumption | with_reducible exact nomT_pure .. | with_reducible exact nomT_unsupported .. | with_reducible exact nomT_typeInfo .. | with_reducible refine nomQ_shape ?_ (fun _ => ?_) | (with_reducible intro _ _; exact .inl rfl) | with_reducible refine nomT_bind ?_ (fun _ => ?_) | with_reducible refine nomT_map ?_ | with_reducible refine nomT_ite ?_ ?_ | contradiction | split | dsimp only | intro _))
theorem nomT_sizeOf {t : TypeId} : NoT P (sizeOf t) := by
  unfold sizeOf
  all_goals (repeat' (first | with_reducible assumption | with_reducible exact nomT_pure .. | with_reducible exact nomT_typeInfo .. | with_reducible refine nomQ_shape ?_ (fun _ => ?_) | (with_reducible intro _ _; exact .inl rfl) | with_reducible refine nomT_bind ?_ (fun _ => ?_) | with_reducible refine nomT_map ?_ | with_reducible refine nomT_ite ?_ ?_ | contradiction | split | dsimp only | intro _))
theorem nomT_isAgg {t : TypeId} : NoT P (isAgg t) := by
  unfold isAgg
  all_goals (repeat' (first | with_reducible assumption | with_reducible exact nomT_pure .. | with_reducible exact nomT_underlying .. | with_reducible refine nomQ_shape ?_ (fun _ => ?_) | (with_reducible intro _ _; exact .inl rfl) | with_reducible refine nomT_bind ?_ (fun _ => ?_) | with_reducible refine nomT_map ?_ | with_reducible refine nomT_ite ?_ ?_ | contradiction | split | dsimp only | intro _))
theorem nomT_elemOf {t : TypeId} : NoT P (elemOf t) := by
  unfold elemOf
  all_goals (repeat' (first | with_reducible assumption | with_reducible exact nomT_pure .. | with_reducible exact nomT_stuck .. | with_reducible exact nomT_underlying .. | with_reducible refine nomQ_shape ?_ (fun _ => ?_) | (with_reducible intro _ _; exact .inl rfl) | with_reducible refine nomT_bind ?_ (fun _ => ?_) | with_reducible refine nomT_map ?_ | with_reducible refine nomT_ite ?_ ?_ | contradiction | split | dsimp only | intro _))
theorem nomT_typeStr {t : TypeId} : NoT P (typeStr t) := by
  unfold typeStr
  all_goals (repeat' (first | with_reducible assumption | with_reducible exact nomT_pure .. | with_reducible exact nomT_unsupported .. | with_reducible exact nomT_typeInfo .. | with_reducible refine nomQ_shape ?_ (fun _ => ?_) | (with_reducible intro _ _; exact .inl rfl) | with_reducible refine nomT_bind ?_ (fun _ => ?_) | with_reducible refine nomT_map ?_ | with_reducible refine nomT_ite ?_ ?_ | contradiction | split | dsimp only | intro _))
theorem nomT_loadCellsFrom {a : Addr} : ∀ (n i : Nat) (acc : Array Value), NoT P (loadCellsFrom a i n acc)
  | 0, i, acc => trivial
  | n + 1, i, acc => by
    unfold loadCellsFrom
    exact nomT_bind nomT_load fun _ => nomT_loadCellsFrom n _ _
theorem nomT_loadCells {a : Addr} {n : Nat} : NoT P (loadCells a n) := nomT_loadCellsFrom _ _ _
theorem nomT_storeCells {a : Addr} : ∀ (vs : List Value) (i : Nat), NoT P (storeCells a vs i)
  | [], i => trivial
  | v :: rest, i => by
    unfold storeCells
    exact nomT_bind nomT_store fun _ => nomT_storeCells rest _
theorem nomT_loadVar {t : TypeId} {a : Addr} : NoT P (loadVar t a) := by
  unfold loadVar
  all_goals (repeat' (first | with_reducible assumption | with_reducible exact nomT_pure .. | with_reducible exact nomT_load .. | with_reducible exact nomT_sizeOf .. | with_reducible exact nomT_isAgg .. | with_reducible exact nomT_loadCells .. | with_reducible refine nomQ_shape ?_ (fun _ => ?_) | (with_reducible intro _ _; exact .inl rfl) | with_reducible refine nomT_bind ?_ (fun _ => ?_) | with_reducible refine nomT_map ?_ | with_reducible refine nomT_ite ?_ ?_ | contradiction | split | dsimp only | intro _))
theorem nomT_storeVar {t : TypeId} {a : Addr} {v : Value} : NoT P (storeVar t a v) := by
  unfold storeVar
  all_goals (repeat' (first | with_reducible assumption | with_reducible exact nomT_stuck .. | with_reducible exact nomT_sizeOf .. | with_reducible exact nomT_storeCells .. | with_reducible refine nomQ_shape ?_ (fun _ => ?_) | (with_reducible intro _ _; exact .inl rfl) | with_reducible refine nomT_bind ?_ (fun _ => ?_) | with_reducible refine nomT_map ?_ | with_reducible refine nomT_ite ?_ ?_ | contradiction | split | dsimp only | intro _))
theorem nomT_newRow {t : TypeId} {cs : Array Value} : NoT P (newRow t cs) := by
  unfold newRow
  all_goals (repeat' (first | with_reducible assumption | with_reducible exact nomT_pure .. | with_reducible exact nomT_newObj .. | with_reducible refine nomQ_shape ?_ (fun _ => ?_) | (with_reducible intro _ _; exact .inl rfl) | with_reducible refine nomT_bind ?_ (fun _ => ?_) | with_reducible refine nomT_map ?_ | with_reducible refine nomT_ite ?_ ?_ | contradiction | split | dsimp only | intro _))
theorem nomT_newVar {t : TypeId} {v : Value} : NoT P (newVar t v) := nomT_newRow
theorem nomT_part {t : TypeId} {cs : Array Value} {o : Nat} : NoT P (part t cs o) := by
  unfold part
  all_goals (repeat' (first | with_reducible assumption | with_reducible exact nomT_pure .. | with_reducible exact nomT_stuck .. | with_reducible exact nomT_sizeOf .. | with_reducible exact nomT_isAgg .. | with_reducible refine nomQ_shape ?_ (fun _ => ?_) | (with_reducible intro _ _; exact .inl rfl) | with_reducible refine nomT_bind ?_ (fun _ => ?_) | with_reducible refine nomT_map ?_ | with_reducible refine nomT_ite ?_ ?_ | contradiction | split | dsimp only | intro _))
theorem nomT_runtimePanic {e : RuntimeError} : NoT P (runtimePanic e : Sem α) := by
  unfold runtimePanic
  all_goals (repeat' (first | with_reducible assumption | with_reducible exact nomT_goPanic .. | with_reducible exact nomT_program .. | with_reducible exact nomT_elemOf .. | with_reducible exact nomT_newVar .. | with_reducible refine nomQ_shape ?_ (fun _ => ?_) | (with_reducible intro _ _; exact .inl rfl) | with_reducible refine nomT_bind ?_ (fun _ => ?_) | with_reducible refine nomT_map ?_ | with_reducible refine nomT_ite ?_ ?_ | contradiction | split | dsimp only | intro _))
theorem nomT_boundsPanic {k : IntKind} {x y : Int} {c : BoundsCode} : NoT P (boundsPanic k x y c : Sem α) := by
  unfold boundsPanic
  all_goals (repeat' (first | with_reducible assumption | with_reducible exact nomT_pure .. | with_reducible exact nomT_choose .. | with_reducible exact nomT_runtimePanic .. | with_reducible refine nomQ_shape ?_ (fun _ => ?_) | (with_reducible intro _ _; exact .inl rfl) | with_reducible refine nomT_bind ?_ (fun _ => ?_) | with_reducible refine nomT_map ?_ | with_reducible refine nomT_ite ?_ ?_ | contradiction | split | dsimp only | intro _))
theorem nomT_asIntOf {v : Value} : NoT P (asIntOf v) := by
  unfold asIntOf
  all_goals (repeat' (first | with_reducible assumption | with_reducible exact nomT_pure .. | with_reducible exact nomT_stuck .. | with_reducible exact nomT_unsupported .. | with_reducible refine nomQ_shape ?_ (fun _ => ?_) | (with_reducible intro _ _; exact .inl rfl) | with_reducible refine nomT_bind ?_ (fun _ => ?_) | with_reducible refine nomT_map ?_ | with_reducible refine nomT_ite ?_ ?_ | contradiction | split | dsimp only | intro _))
theorem nomT_asInt {v : Value} : NoT P (asInt v) := by
  unfold asInt
  all_goals (repeat' (first | with_reducible assumption | with_reducible exact nomT_pure .. | with_reducible exact nomT_asIntOf .. | with_reducible refine nomQ_shape ?_ (fun _ => ?_) | (with_reducible intro _ _; exact .inl rfl) | with_reducible refine nomT_bind ?_ (fun _ => ?_) | with_reducible refine nomT_map ?_ | with_reducible refine nomT_ite ?_ ?_ | contradiction | split | dsimp only | intro _))
theorem nomT_asBool {v : Value} : NoT P (asBool v) := by
  unfold asBool
  all_goals (repeat' (first | with_reducible assumption | with_reducible exact nomT_pure .. | with_reducible exact nomT_stuck .. | with_reducible refine nomQ_shape ?_ (fun _ => ?_) | (with_reducible intro _ _; exact .inl rfl) | with_reducible refine nomT_bind ?_ (fun _ => ?_) | with_reducible refine nomT_map ?_ | with_reducible refine nomT_ite ?_ ?_ | contradiction | split | dsimp only | intro _))
theorem nomT_asString {v : Value} : NoT P (asString v) := by
  unfold asString
  all_goals (repeat' (first | with_reducible assumption | with_reducible exact nomT_pure .. | with_reducible exact nomT_stuck .. | with_reducible refine nomQ_shape ?_ (fun _ => ?_) | (with_reducible intro _ _; exact .inl rfl) | with_reducible refine nomT_bind ?_ (fun _ => ?_) | with_reducible refine nomT_map ?_ | with_reducible refine nomT_ite ?_ ?_ | contradiction | split | dsimp only | intro _))
theorem nomT_asAgg {v : Value} : NoT P (asAgg v) := by
  unfold asAgg
  all_goals (repeat' (first | with_reducible assumption | with_reducible exact nomT_pure .. | with_reducible exact nomT_stuck .. | with_reducible refine nomQ_shape ?_ (fun _ => ?_) | (with_reducible intro _ _; exact .inl rfl) | with_reducible refine nomT_bind ?_ (fun _ => ?_) | with_reducible refine nomT_map ?_ | with_reducible refine nomT_ite ?_ ?_ | contradiction | split | dsimp only | intro _))
theorem nomT_asAddr {v : Value} : NoT P (asAddr v) := by
  unfold asAddr
  all_goals (repeat' (first | with_reducible assumption | with_reducible exact nomT_pure .. | with_reducible exact nomT_stuck .. | with_reducible exact nomT_runtimePanic .. | with_reducible refine nomQ_shape ?_ (fun _ => ?_) | (with_reducible intro _ _; exact .inl rfl) | with_reducible refine nomT_bind ?_ (fun _ => ?_) | with_reducible refine nomT_map ?_ | with_reducible refine nomT_ite ?_ ?_ | contradiction | split | dsimp only | intro _))
theorem nomT_sureAddr {v : Value} : NoT P (Instr.sureAddr v) := by
  unfold Instr.sureAddr
  all_goals (repeat' (first | with_reducible assumption | with_reducible exact nomT_pure .. | with_reducible exact nomT_stuck .. | with_reducible refine nomQ_shape ?_ (fun _ => ?_) | (with_reducible intro _ _; exact .inl rfl) | with_reducible refine nomT_bind ?_ (fun _ => ?_) | with_reducible refine nomT_map ?_ | with_reducible refine nomT_ite ?_ ?_ | contradiction | split | dsimp only | intro _))
theorem nomT_viewAt {r : Nat} : NoT P (viewAt r) := by
  unfold viewAt
  all_goals (repeat' (first | with_reducible assumption | with_reducible exact nomT_pure .. | with_reducible exact nomT_getObj .. | with_reducible refine nomQ_shape ?_ (fun _ => ?_) | (with_reducible intro _ _; exact .inl rfl) | with_reducible refine nomT_bind ?_ (fun _ => ?_) | with_reducible refine nomT_map ?_ | with_reducible refine nomT_ite ?_ ?_ | contradiction | split | dsimp only | intro _))
theorem nomT_numberAt {r : Nat} : NoT P (numberAt r) := by
  unfold numberAt
  all_goals (repeat' (first | with_reducible assumption | with_reducible exact nomT_pure .. | with_reducible exact nomT_getObj .. | with_reducible refine nomQ_shape ?_ (fun _ => ?_) | (with_reducible intro _ _; exact .inl rfl) | with_reducible refine nomT_bind ?_ (fun _ => ?_) | with_reducible refine nomT_map ?_ | with_reducible refine nomT_ite ?_ ?_ | contradiction | split | dsimp only | intro _))
theorem nomT_noView {a : Addr} : NoT P (noView a) := by
  unfold noView
  all_goals (repeat' (first | with_reducible assumption | with_reducible exact nomT_pure .. | with_reducible exact nomT_unsupported .. | with_reducible exact nomT_viewAt .. | with_reducible refine nomQ_shape ?_ (fun _ => ?_) | (with_reducible intro _ _; exact .inl rfl) | with_reducible refine nomT_bind ?_ (fun _ => ?_) | with_reducible refine nomT_map ?_ | with_reducible refine nomT_ite ?_ ?_ | contradiction | split | dsimp only | intro _))
theorem nomT_asNumber {a : Addr} {l : Bool} : NoT P (asNumber a l) := by
  unfold asNumber
  all_goals (repeat' (first | with_reducible assumption | with_reducible exact nomT_pure .. | with_reducible exact nomT_newObj .. | with_reducible refine nomQ_shape ?_ (fun _ => ?_) | (with_reducible intro _ _; exact .inl rfl) | with_reducible refine nomT_bind ?_ (fun _ => ?_) | with_reducible refine nomT_map ?_ | with_reducible refine nomT_ite ?_ ?_ | contradiction | split | dsimp only | intro _))
theorem nomT_behindNumber {a : Addr} : NoT P (behindNumber a) := by
  unfold behindNumber
  all_goals (repeat' (first | with_reducible assumption | with_reducible exact nomT_pure .. | with_reducible exact nomT_numberAt .. | with_reducible refine nomQ_shape ?_ (fun _ => ?_) | (with_reducible intro _ _; exact .inl rfl) | with_reducible refine nomT_bind ?_ (fun _ => ?_) | with_reducible refine nomT_map ?_ | with_reducible refine nomT_ite ?_ ?_ | contradiction | split | dsimp only | intro _))
theorem nomT_byteOf {a : Addr} : NoT P (byteOf a) := by
  unfold byteOf
  all_goals (repeat' (first | with_reducible assumption | with_reducible exact nomT_pure .. | with_reducible exact nomT_stuck .. | with_reducible exact nomT_program .. | with_reducible exact nomT_noView .. | with_reducible refine nomQ_shape ?_ (fun _ => ?_) | (with_reducible intro _ _; exact .inl rfl) | with_reducible refine nomT_bind ?_ (fun _ => ?_) | with_reducible refine nomT_map ?_ | with_reducible refine nomT_ite ?_ ?_ | contradiction | split | dsimp only | intro _))
theorem nomT_partAt {a : Addr} {c b : Nat} : NoT P (partAt a c b) := by
  unfold partAt
  all_goals (repeat' (first | with_reducible assumption | with_reducible exact nomT_pure .. | with_reducible exact nomT_byteOf .. | with_reducible refine nomQ_shape ?_ (fun _ => ?_) | (with_reducible intro _ _; exact .inl rfl) | with_reducible refine nomT_bind ?_ (fun _ => ?_) | with_reducible refine nomT_map ?_ | with_reducible refine nomT_ite ?_ ?_ | contradiction | split | dsimp only | intro _))
theorem nomT_fieldPlace {a : Addr} {f : Field} : NoT P (fieldPlace a f) := by
  unfold fieldPlace
  all_goals (repeat' (first | with_reducible assumption | with_reducible exact nomT_pure .. | with_reducible exact nomT_sizeOf .. | with_reducible exact nomT_partAt .. | with_reducible refine nomQ_shape ?_ (fun _ => ?_) | (with_reducible intro _ _; exact .inl rfl) | with_reducible refine nomT_bind ?_ (fun _ => ?_) | with_reducible refine nomT_map ?_ | with_reducible refine nomT_ite ?_ ?_ | contradiction | split | dsimp only | intro _))
theorem cellAt0 {p : Program} {d : Nat} {e : TypeId} {o : Nat} {b : Int} : cellAtBytes p d e 0 o b = none := by
  unfold cellAtBytes
  simp only [Nat.zero_mul]
  split
  · rfl
  · cases byteOfCell p d e (o % p.cellsOf e) with
    | none => rfl
    | some h =>
      simp only [Option.bind_eq_bind, Option.bind_some]
      rw [if_pos]
      · rfl
      · have e : Int.ofNat 0 = 0 := rfl
        rw [e]
        simp only [Bool.or_eq_true, decide_eq_true_eq]
        omega
theorem nomT_unsafeAdd {x : Array TypeId} {t : TypeId} {a b : Value} : NoT P (Builtin.unsafeAdd_ x t #[a, b]) := by
  cases a
  case pointer ptr =>
    unfold Builtin.unsafeAdd_
    refine nomT_bind (s := asInt b) nomT_asInt (fun n => ?_)
    all_goals (repeat' (first | with_reducible assumption | with_reducible exact nomT_pure .. | with_reducible exact nomT_unsupported .. | with_reducible exact nomT_program .. | with_reducible exact nomT_viewAt .. | with_reducible refine nomQ_shape ?_ (fun _ => ?_) | (with_reducible intro _ _; exact .inl rfl) | with_reducible refine nomT_bind ?_ (fun _ => ?_) | with_reducible refine nomT_map ?_ | with_reducible refine nomT_ite ?_ ?_ | contradiction | split | dsimp only | intro _))
    all_goals
      refine .inr ?_
      change Dm P false (match cellAtBytes P P.depth _ (0 / P.cellsOf _) _ _ with | some off => _ | none => _)
      rw [Nat.zero_div, cellAt0]
      trivial
  all_goals exact nomT_stuck
theorem nomT_movedNumber {t : TypeId} {x y : Value} : NoT P (movedNumber t x y) := by
  unfold movedNumber
  all_goals (repeat' (first | with_reducible assumption | with_reducible exact nomT_pure .. | with_reducible exact nomT_unsupported .. | with_reducible exact nomT_underlying .. | with_reducible exact nomT_asNumber .. | with_reducible exact nomT_behindNumber .. | with_reducible exact nomT_unsafeAdd .. | with_reducible refine nomQ_shape ?_ (fun _ => ?_) | (with_reducible intro _ _; exact .inl rfl) | with_reducible refine nomT_bind ?_ (fun _ => ?_) | with_reducible refine nomT_map ?_ | with_reducible refine nomT_ite ?_ ?_ | contradiction | split | dsimp only | intro _))
theorem nomT_movedPointer {t : TypeId} {x y : Value} : NoT P (movedPointer t x y) := by
  unfold movedPointer
  all_goals (repeat' (first | with_reducible assumption | with_reducible exact nomT_unsupported .. | with_reducible exact nomT_numberAt .. | with_reducible exact nomT_unsafeAdd .. | with_reducible refine nomQ_shape ?_ (fun _ => ?_) | (with_reducible intro _ _; exact .inl rfl) | with_reducible refine nomT_bind ?_ (fun _ => ?_) | with_reducible refine nomT_map ?_ | with_reducible refine nomT_ite ?_ ?_ | contradiction | split | dsimp only | intro _))
theorem nomT_box {t : TypeId} {v : Value} : NoT P (Instr.box t v) := by
  unfold Instr.box
  all_goals (repeat' (first | with_reducible assumption | with_reducible exact nomT_pure .. | with_reducible exact nomT_newVar .. | with_reducible refine nomQ_shape ?_ (fun _ => ?_) | (with_reducible intro _ _; exact .inl rfl) | with_reducible refine nomT_bind ?_ (fun _ => ?_) | with_reducible refine nomT_map ?_ | with_reducible refine nomT_ite ?_ ?_ | contradiction | split | dsimp only | intro _))
theorem nomT_mapM {γ : Type} {f : γ → Sem β} (h : ∀ x, NoT P (f x)) : ∀ (l : List γ), NoT P (l.mapM f)
  | [] => trivial
  | x :: l => by
    rw [List.mapM_cons]
    exact nomT_bind (h x) fun _ => nomT_bind (nomT_mapM h l) fun _ => trivial
theorem nomT_build {t : TypeId} {ps : Array (Nat × Value)} : NoT P (Instr.build t ps) := by
  unfold Instr.build
  refine nomT_bind nomT_zeroValue fun z => ?_
  refine nomT_bind nomT_underlying fun d => ?_
  split
  · refine nomT_bind ?_ fun _ => ?_
    · rw [Array.mapM_eq_mapM_toList]
      refine nomT_map (nomT_mapM (fun f => ?_) _)
      all_goals (repeat' (first | with_reducible assumption | with_reducible exact nomT_pure .. | with_reducible exact nomT_sizeOf .. | with_reducible refine nomQ_shape ?_ (fun _ => ?_) | (with_reducible intro _ _; exact .inl rfl) | with_reducible refine nomT_bind ?_ (fun _ => ?_) | with_reducible refine nomT_map ?_ | with_reducible refine nomT_ite ?_ ?_ | contradiction | split | dsimp only | intro _))
    · all_goals (repeat' (first | with_reducible assumption | with_reducible exact nomT_pure .. | with_reducible exact nomT_stuck .. | with_reducible refine nomQ_shape ?_ (fun _ => ?_) | (with_reducible intro _ _; exact .inl rfl) | with_reducible refine nomT_bind ?_ (fun _ => ?_) | with_reducible refine nomT_map ?_ | with_reducible refine nomT_ite ?_ ?_ | contradiction | split | dsimp only | intro _))
  · all_goals (repeat' (first | with_reducible assumption | with_reducible exact nomT_pure .. | with_reducible exact nomT_stuck .. | with_reducible exact nomT_sizeOf .. | with_reducible refine nomQ_shape ?_ (fun _ => ?_) | (with_reducible intro _ _; exact .inl rfl) | with_reducible refine nomT_bind ?_ (fun _ => ?_) | with_reducible refine nomT_map ?_ | with_reducible refine nomT_ite ?_ ?_ | contradiction | split | dsimp only | intro _))
  · all_goals (repeat' (first | with_reducible assumption | with_reducible exact nomT_stuck .. | with_reducible refine nomQ_shape ?_ (fun _ => ?_) | (with_reducible intro _ _; exact .inl rfl) | with_reducible refine nomT_bind ?_ (fun _ => ?_) | with_reducible refine nomT_map ?_ | with_reducible refine nomT_ite ?_ ?_ | contradiction | split | dsimp only | intro _))
theorem nomT_buildSlice {t : TypeId} {n : Nat} {ps : Array (Nat × Value)} : NoT P (Instr.buildSlice t n ps) := by
  unfold Instr.buildSlice
  all_goals (repeat' (first | with_reducible assumption | with_reducible exact nomT_pure .. | with_reducible exact nomT_stuck .. | with_reducible exact nomT_unsupported .. | with_reducible exact nomT_underlying .. | with_reducible exact nomT_zeroValue .. | with_reducible exact nomT_sizeOf .. | with_reducible exact nomT_newRow .. | with_reducible refine nomQ_shape ?_ (fun _ => ?_) | (with_reducible intro _ _; exact .inl rfl) | with_reducible refine nomT_bind ?_ (fun _ => ?_) | with_reducible refine nomT_map ?_ | with_reducible refine nomT_ite ?_ ?_ | contradiction | split | dsimp only | intro _))
theorem nomT_loadAt {t : TypeId} {v : Value} : NoT P (Instr.loadAt t v) := by
  unfold Instr.loadAt
  all_goals (repeat' (first | with_reducible assumption | with_reducible exact nomT_loadVar .. | with_reducible exact nomT_sureAddr .. | with_reducible refine nomQ_shape ?_ (fun _ => ?_) | (with_reducible intro _ _; exact .inl rfl) | with_reducible refine nomT_bind ?_ (fun _ => ?_) | with_reducible refine nomT_map ?_ | with_reducible refine nomT_ite ?_ ?_ | contradiction | split | dsimp only | intro _))
theorem nomT_storeAt {t : TypeId} {v x : Value} : NoT P (Instr.storeAt t v x) := by
  unfold Instr.storeAt
  all_goals (repeat' (first | with_reducible assumption | with_reducible exact nomT_storeVar .. | with_reducible exact nomT_sureAddr .. | with_reducible refine nomQ_shape ?_ (fun _ => ?_) | (with_reducible intro _ _; exact .inl rfl) | with_reducible refine nomT_bind ?_ (fun _ => ?_) | with_reducible refine nomT_map ?_ | with_reducible refine nomT_ite ?_ ?_ | contradiction | split | dsimp only | intro _))
theorem nomT_fieldAt {t : TypeId} {v : Value} {f : Nat} : NoT P (Instr.fieldAt t v f) := by
  unfold Instr.fieldAt
  all_goals (repeat' (first | with_reducible assumption | with_reducible exact nomT_pure .. | with_reducible exact nomT_stuck .. | with_reducible exact nomT_underlying .. | with_reducible exact nomT_sureAddr .. | with_reducible exact nomT_fieldPlace .. | with_reducible refine nomQ_shape ?_ (fun _ => ?_) | (with_reducible intro _ _; exact .inl rfl) | with_reducible refine nomT_bind ?_ (fun _ => ?_) | with_reducible refine nomT_map ?_ | with_reducible refine nomT_ite ?_ ?_ | contradiction | split | dsimp only | intro _))
theorem nomT_indexAt {t : TypeId} {v x : Value} : NoT P (Instr.indexAt t v x) := by
  unfold Instr.indexAt
  all_goals (repeat' (first | with_reducible assumption | with_reducible exact nomT_pure .. | with_reducible exact nomT_stuck .. | with_reducible exact nomT_unsupported .. | with_reducible exact nomT_underlying .. | with_reducible exact nomT_sizeOf .. | with_reducible exact nomT_boundsPanic .. | with_reducible exact nomT_asIntOf .. | with_reducible exact nomT_sureAddr .. | with_reducible refine nomQ_shape ?_ (fun _ => ?_) | (with_reducible intro _ _; exact .inl rfl) | with_reducible refine nomT_bind ?_ (fun _ => ?_) | with_reducible refine nomT_map ?_ | with_reducible refine nomT_ite ?_ ?_ | contradiction | split | dsimp only | intro _))
theorem nomT_sliceBound {x : Value} {y : Nat} {c : BoundsCode} : NoT P (Instr.sliceBound x y c) := by
  unfold Instr.sliceBound
  all_goals (repeat' (first | with_reducible assumption | with_reducible exact nomT_pure .. | with_reducible exact nomT_boundsPanic .. | with_reducible exact nomT_asIntOf .. | with_reducible refine nomQ_shape ?_ (fun _ => ?_) | (with_reducible intro _ _; exact .inl rfl) | with_reducible refine nomT_bind ?_ (fun _ => ?_) | with_reducible refine nomT_map ?_ | with_reducible refine nomT_ite ?_ ?_ | contradiction | split | dsimp only | intro _))
theorem nomT_sliceBounds {b : Bool} {l c : Nat} {x y z : Option Value} : NoT P (Instr.sliceBounds b l c x y z) := by
  unfold Instr.sliceBounds
  all_goals (repeat' (first | with_reducible assumption | with_reducible exact nomT_pure .. | with_reducible exact nomT_stuck .. | with_reducible exact nomT_sliceBound .. | with_reducible refine nomQ_shape ?_ (fun _ => ?_) | (with_reducible intro _ _; exact .inl rfl) | with_reducible refine nomT_bind ?_ (fun _ => ?_) | with_reducible refine nomT_map ?_ | with_reducible refine nomT_ite ?_ ?_ | contradiction | split | dsimp only | intro _))
theorem nomT_slice {t : TypeId} {v : Value} {x y z : Option Value} : NoT P (Instr.slice t v x y z) := by
  unfold Instr.slice
  all_goals (repeat' (first | with_reducible assumption | with_reducible exact nomT_pure .. | with_reducible exact nomT_stuck .. | with_reducible exact nomT_underlying .. | with_reducible exact nomT_sizeOf .. | with_reducible exact nomT_asAddr .. | with_reducible exact nomT_sliceBounds .. | with_reducible refine nomQ_shape ?_ (fun _ => ?_) | (with_reducible intro _ _; exact .inl rfl) | with_reducible refine nomT_bind ?_ (fun _ => ?_) | with_reducible refine nomT_map ?_ | with_reducible refine nomT_ite ?_ ?_ | contradiction | split | dsimp only | intro _))
theorem nomT_sliceAt {t : TypeId} {v : Value} {x y z : Option Value} : NoT P (Instr.sliceAt t v x y z) := by
  unfold Instr.sliceAt
  all_goals (repeat' (first | with_reducible assumption | with_reducible exact nomT_pure .. | with_reducible exact nomT_underlying .. | with_reducible exact nomT_sizeOf .. | with_reducible exact nomT_sureAddr .. | with_reducible exact nomT_sliceBounds .. | with_reducible exact nomT_slice .. | with_reducible refine nomQ_shape ?_ (fun _ => ?_) | (with_reducible intro _ _; exact .inl rfl) | with_reducible refine nomT_bind ?_ (fun _ => ?_) | with_reducible refine nomT_map ?_ | with_reducible refine nomT_ite ?_ ?_ | contradiction | split | dsimp only | intro _))
theorem nomT_makeSlice {t : TypeId} {x y : Value} : NoT P (Instr.makeSlice t x y) := by
  unfold Instr.makeSlice
  all_goals (repeat' (first | with_reducible assumption | with_reducible exact nomT_pure .. | with_reducible exact nomT_stuck .. | with_reducible exact nomT_choose .. | with_reducible exact nomT_askRoom .. | with_reducible exact nomT_underlying .. | with_reducible exact nomT_typeInfo .. | with_reducible exact nomT_zeroValue .. | with_reducible exact nomT_sizeOf .. | with_reducible exact nomT_newRow .. | with_reducible exact nomT_runtimePanic .. | with_reducible exact nomT_asInt .. | with_reducible refine nomQ_shape ?_ (fun _ => ?_) | (with_reducible intro _ _; exact .inl rfl) | with_reducible refine nomT_bind ?_ (fun _ => ?_) | with_reducible refine nomT_map ?_ | with_reducible refine nomT_ite ?_ ?_ | contradiction | split | dsimp only | intro _))
theorem nomT_makeInterface {t : TypeId} {x : Value} : NoT P (Instr.makeInterface t x) := by
  unfold Instr.makeInterface
  all_goals (repeat' (first | with_reducible assumption | with_reducible exact nomT_pure .. | with_reducible exact nomT_stuck .. | with_reducible exact nomT_underlying .. | with_reducible refine nomQ_shape ?_ (fun _ => ?_) | (with_reducible intro _ _; exact .inl rfl) | with_reducible refine nomT_bind ?_ (fun _ => ?_) | with_reducible refine nomT_map ?_ | with_reducible refine nomT_ite ?_ ?_ | contradiction | split | dsimp only | intro _))
theorem nomT_extract {x : Value} {i : Nat} : NoT P (Instr.extract x i) := by
  unfold Instr.extract
  all_goals (repeat' (first | with_reducible assumption | with_reducible exact nomT_pure .. | with_reducible exact nomT_stuck .. | with_reducible refine nomQ_shape ?_ (fun _ => ?_) | (with_reducible intro _ _; exact .inl rfl) | with_reducible refine nomT_bind ?_ (fun _ => ?_) | with_reducible refine nomT_map ?_ | with_reducible refine nomT_ite ?_ ?_ | contradiction | split | dsimp only | intro _))
theorem nv_bindR {f : α → Sem β} (hf : ∀ a, Nv P (f a)) : ∀ (s : Sem α), Nv P (s.bind f) := by
  intro s
  induction s with
  | pure a => exact hf a
  | load m a k ih => exact fun v => ih v
  | store m a v k ih => exact ih
  | new o k ih => exact fun v => ih v
  | shape r k ih => exact fun v => ih v
  | freeze a n k ih => exact ih
  | frozen a k ih => exact fun v => ih v
  | getObj r k ih => exact fun v => ih v
  | setObj r o k ih => exact ih
  | choose q k ih => exact fun v => ih v
  | sys c k ih => exact fun v => ih v
  | program k ih => exact ih P
  | mark m k ih => exact ih
  | halt h' => exact trivial
theorem nv_panicNil : Nv P (runtimePanic .panicNil : Sem α) := by
  unfold runtimePanic
  refine nv_bindR (fun p => ?_) _
  refine nv_bindR (fun _ => ?_) _
  refine nv_bindR (fun _ => ?_) _
  exact trivial
theorem nomT_ipanic {x : Value} : NoT P (Instr.panic x) := by
  unfold Instr.panic
  split
  · exact nomT_goPanic
  · have h1 : ∀ n : Int, NoT P (if n == 1 then goPanic .nilIface else runtimePanic .panicNil : Sem Value) := fun n => nomT_ite nomT_goPanic nomT_runtimePanic
    have h2 : ∀ n : Int, Nv P (if n == 1 then goPanic .nilIface else runtimePanic .panicNil : Sem Value) := fun n => by
      split
      · exact trivial
      · exact nv_panicNil
    refine ⟨fun r => ?_, fun r => ?_⟩
    · cases r <;> first | exact h1 _ | exact trivial
    · cases r <;> first | exact h2 _ | exact trivial
  · exact nomT_stuck
theorem nomT_intArith {op : BinOp} {k : IntKind} {x y : Int} : NoT P (Op.intArith op k x y) := by
  unfold Op.intArith
  all_goals (repeat' (first | with_reducible assumption | with_reducible exact nomT_pure .. | with_reducible exact nomT_stuck .. | with_reducible refine nomQ_shape ?_ (fun _ => ?_) | (with_reducible intro _ _; exact .inl rfl) | with_reducible refine nomT_bind ?_ (fun _ => ?_) | with_reducible refine nomT_map ?_ | with_reducible refine nomT_ite ?_ ?_ | contradiction | split | dsimp only | intro _))
theorem nomT_intDiv {op : BinOp} {k : IntKind} {x y : Int} : NoT P (Op.intDiv op k x y) := by
  unfold Op.intDiv
  all_goals (repeat' (first | with_reducible assumption | with_reducible exact nomT_pure .. | with_reducible exact nomT_stuck .. | with_reducible exact nomT_runtimePanic .. | with_reducible refine nomQ_shape ?_ (fun _ => ?_) | (with_reducible intro _ _; exact .inl rfl) | with_reducible refine nomT_bind ?_ (fun _ => ?_) | with_reducible refine nomT_map ?_ | with_reducible refine nomT_ite ?_ ?_ | contradiction | split | dsimp only | intro _))
theorem nomT_intBits {op : BinOp} {k : IntKind} {x y : Int} : NoT P (Op.intBits op k x y) := by
  unfold Op.intBits
  all_goals (repeat' (first | with_reducible assumption | with_reducible exact nomT_pure .. | with_reducible exact nomT_stuck .. | with_reducible refine nomQ_shape ?_ (fun _ => ?_) | (with_reducible intro _ _; exact .inl rfl) | with_reducible refine nomT_bind ?_ (fun _ => ?_) | with_reducible refine nomT_map ?_ | with_reducible refine nomT_ite ?_ ?_ | contradiction | split | dsimp only | intro _))
theorem nomT_shift {op : BinOp} {k k' : IntKind} {x y : Int} : NoT P (Op.shift op k x k' y) := by
  unfold Op.shift
  all_goals (repeat' (first | with_reducible assumption | with_reducible exact nomT_pure .. | with_reducible exact nomT_stuck .. | with_reducible exact nomT_runtimePanic .. | with_reducible refine nomQ_shape ?_ (fun _ => ?_) | (with_reducible intro _ _; exact .inl rfl) | with_reducible refine nomT_bind ?_ (fun _ => ?_) | with_reducible refine nomT_map ?_ | with_reducible refine nomT_ite ?_ ?_ | contradiction | split | dsimp only | intro _))
theorem nomT_intCmp {op : BinOp} {x y : Int} : NoT P (Op.intCmp op x y) := by
  unfold Op.intCmp
  all_goals (repeat' (first | with_reducible assumption | with_reducible exact nomT_pure .. | with_reducible exact nomT_stuck .. | with_reducible refine nomQ_shape ?_ (fun _ => ?_) | (with_reducible intro _ _; exact .inl rfl) | with_reducible refine nomT_bind ?_ (fun _ => ?_) | with_reducible refine nomT_map ?_ | with_reducible refine nomT_ite ?_ ?_ | contradiction | split | dsimp only | intro _))
theorem nomT_stringOp {op : BinOp} {x y : ByteArray} : NoT P (Op.stringOp op x y) := by
  unfold Op.stringOp
  all_goals (repeat' (first | with_reducible assumption | with_reducible exact nomT_pure .. | with_reducible exact nomT_stuck .. | with_reducible exact nomT_unsupported .. | with_reducible refine nomQ_shape ?_ (fun _ => ?_) | (with_reducible intro _ _; exact .inl rfl) | with_reducible refine nomT_bind ?_ (fun _ => ?_) | with_reducible refine nomT_map ?_ | with_reducible refine nomT_ite ?_ ?_ | contradiction | split | dsimp only | intro _))
theorem nomT_floatArith {op : BinOp} {k : FloatKind} {x y : Nat} : NoT P (Op.floatArith op k x y) := by
  unfold Op.floatArith
  all_goals (repeat' (first | with_reducible assumption | with_reducible exact nomT_pure .. | with_reducible exact nomT_stuck .. | with_reducible exact nomT_choose .. | with_reducible refine nomQ_shape ?_ (fun _ => ?_) | (with_reducible intro _ _; exact .inl rfl) | with_reducible refine nomT_bind ?_ (fun _ => ?_) | with_reducible refine nomT_map ?_ | with_reducible refine nomT_ite ?_ ?_ | contradiction | split | dsimp only | intro _))
theorem nomT_floatCmp {op : BinOp} {k : FloatKind} {x y : Nat} : NoT P (Op.floatCmp op k x y) := by
  unfold Op.floatCmp
  all_goals (repeat' (first | with_reducible assumption | with_reducible exact nomT_pure .. | with_reducible exact nomT_stuck .. | with_reducible refine nomQ_shape ?_ (fun _ => ?_) | (with_reducible intro _ _; exact .inl rfl) | with_reducible refine nomT_bind ?_ (fun _ => ?_) | with_reducible refine nomT_map ?_ | with_reducible refine nomT_ite ?_ ?_ | contradiction | split | dsimp only | intro _))
theorem nomT_floatToFloat {a b : FloatKind} {x : Nat} : NoT P (Conv.floatToFloat a x b) := by
  unfold Conv.floatToFloat
  all_goals (repeat' (first | with_reducible assumption | with_reducible exact nomT_pure .. | with_reducible exact nomT_choose .. | with_reducible refine nomQ_shape ?_ (fun _ => ?_) | (with_reducible intro _ _; exact .inl rfl) | with_reducible refine nomT_bind ?_ (fun _ => ?_) | with_reducible refine nomT_map ?_ | with_reducible refine nomT_ite ?_ ?_ | contradiction | split | dsimp only | intro _))
theorem nomT_carith {op : BinOp} {k : FloatKind} {x y : Nat} : NoT P (Op.Complex.arith op k x y) := by
  unfold Op.Complex.arith
  all_goals (repeat' (first | with_reducible assumption | with_reducible exact nomT_pure .. | with_reducible exact nomT_stuck .. | with_reducible exact nomT_floatArith .. | with_reducible refine nomQ_shape ?_ (fun _ => ?_) | (with_reducible intro _ _; exact .inl rfl) | with_reducible refine nomT_bind ?_ (fun _ => ?_) | with_reducible refine nomT_map ?_ | with_reducible refine nomT_ite ?_ ?_ | contradiction | split | dsimp only | intro _))
theorem nomT_ccmp {op : BinOp} {k : FloatKind} {x y : Nat} : NoT P (Op.Complex.cmp op k x y) := by
  unfold Op.Complex.cmp
  all_goals (repeat' (first | with_reducible assumption | with_reducible exact nomT_asBool .. | with_reducible exact nomT_floatCmp .. | with_reducible refine nomQ_shape ?_ (fun _ => ?_) | (with_reducible intro _ _; exact .inl rfl) | with_reducible refine nomT_bind ?_ (fun _ => ?_) | with_reducible refine nomT_map ?_ | with_reducible refine nomT_ite ?_ ?_ | contradiction | split | dsimp only | intro _))
theorem nomT_cconv {a b : FloatKind} {x : Nat} : NoT P (Op.Complex.conv a x b) := by
  unfold Op.Complex.conv
  all_goals (repeat' (first | with_reducible assumption | with_reducible exact nomT_pure .. | with_reducible exact nomT_stuck .. | with_reducible exact nomT_floatToFloat .. | with_reducible refine nomQ_shape ?_ (fun _ => ?_) | (with_reducible intro _ _; exact .inl rfl) | with_reducible refine nomT_bind ?_ (fun _ => ?_) | with_reducible refine nomT_map ?_ | with_reducible refine nomT_ite ?_ ?_ | contradiction | split | dsimp only | intro _))
theorem nomT_cadd {x y : Nat} : NoT P (Op.Complex.add x y) := nomT_carith
theorem nomT_csub {x y : Nat} : NoT P (Op.Complex.sub x y) := nomT_carith
theorem nomT_cmul {x y : Nat} : NoT P (Op.Complex.mul x y) := nomT_carith
theorem nomT_cquo {x y : Nat} : NoT P (Op.Complex.quo x y) := nomT_carith
theorem nomT_cproduct {a b c d : Nat} : NoT P (Op.Complex.product a b c d) := by
  unfold Op.Complex.product
  all_goals (repeat' (first | with_reducible assumption | with_reducible exact nomT_pure .. | with_reducible exact nomT_cadd .. | with_reducible exact nomT_csub .. | with_reducible exact nomT_cmul .. | with_reducible refine nomQ_shape ?_ (fun _ => ?_) | (with_reducible intro _ _; exact .inl rfl) | with_reducible refine nomT_bind ?_ (fun _ => ?_) | with_reducible refine nomT_map ?_ | with_reducible refine nomT_ite ?_ ?_ | contradiction | split | dsimp only | intro _))
theorem nomT_ccorrected {s a b c d : Nat} : NoT P (Op.Complex.corrected s a b c d) := by
  unfold Op.Complex.corrected
  all_goals (repeat' (first | with_reducible assumption | with_reducible exact nomT_pure .. | with_reducible exact nomT_cadd .. | with_reducible exact nomT_csub .. | with_reducible exact nomT_cmul .. | with_reducible refine nomQ_shape ?_ (fun _ => ?_) | (with_reducible intro _ _; exact .inl rfl) | with_reducible refine nomT_bind ?_ (fun _ => ?_) | with_reducible refine nomT_map ?_ | with_reducible refine nomT_ite ?_ ?_ | contradiction | split | dsimp only | intro _))
theorem nomT_cquotient {a b c d : Nat} : NoT P (Op.Complex.quotient a b c d) := by
  unfold Op.Complex.quotient
  all_goals (repeat' (first | with_reducible assumption | with_reducible exact nomT_pure .. | with_reducible exact nomT_ccmp .. | with_reducible exact nomT_cadd .. | with_reducible exact nomT_csub .. | with_reducible exact nomT_cmul .. | with_reducible exact nomT_cquo .. | with_reducible exact nomT_ccorrected .. | with_reducible refine nomQ_shape ?_ (fun _ => ?_) | (with_reducible intro _ _; exact .inl rfl) | with_reducible refine nomT_bind ?_ (fun _ => ?_) | with_reducible refine nomT_map ?_ | with_reducible refine nomT_ite ?_ ?_ | contradiction | split | dsimp only | intro _))
theorem nomT_complexOp {op : BinOp} {k : FloatKind} {a b c d : Nat} : NoT P (Op.complexOp op k a b c d) := by
  unfold Op.complexOp
  all_goals (repeat' (first | with_reducible assumption | with_reducible exact nomT_pure .. | with_reducible exact nomT_stuck .. | with_reducible exact nomT_carith .. | with_reducible exact nomT_ccmp .. | with_reducible exact nomT_cconv .. | with_reducible exact nomT_cproduct .. | with_reducible exact nomT_cquotient .. | with_reducible refine nomQ_shape ?_ (fun _ => ?_) | (with_reducible intro _ _; exact .inl rfl) | with_reducible refine nomT_bind ?_ (fun _ => ?_) | with_reducible refine nomT_map ?_ | with_reducible refine nomT_ite ?_ ?_ | contradiction | split | dsimp only | intro _))
theorem nomT_twoPlaces {a b : Addr} : NoT P (Op.twoPlaces a b) := by
  unfold Op.twoPlaces
  all_goals (repeat' (first | with_reducible assumption | with_reducible exact nomT_pure .. | with_reducible exact nomT_unsupported .. | with_reducible exact nomT_program .. | with_reducible exact nomT_byteOf .. | with_reducible refine nomQ_shape ?_ (fun _ => ?_) | (with_reducible intro _ _; exact .inl rfl) | with_reducible refine nomT_bind ?_ (fun _ => ?_) | with_reducible refine nomT_map ?_ | with_reducible refine nomT_ite ?_ ?_ | contradiction | split | dsimp only | intro _))
theorem nomT_addrSub {k : IntKind} {a b : Addr} : NoT P (Op.addrSub k a b) := by
  unfold Op.addrSub
  all_goals (repeat' (first | with_reducible assumption | with_reducible exact nomT_pure .. | with_reducible exact nomT_twoPlaces .. | with_reducible refine nomQ_shape ?_ (fun _ => ?_) | (with_reducible intro _ _; exact .inl rfl) | with_reducible refine nomT_bind ?_ (fun _ => ?_) | with_reducible refine nomT_map ?_ | with_reducible refine nomT_ite ?_ ?_ | contradiction | split | dsimp only | intro _))
theorem nomT_addrCmp {op : BinOp} {a b : Addr} : NoT P (Op.addrCmp op a b) := by
  unfold Op.addrCmp
  all_goals (repeat' (first | with_reducible assumption | with_reducible exact nomT_pure .. | with_reducible exact nomT_unsupported .. | with_reducible exact nomT_twoPlaces .. | with_reducible refine nomQ_shape ?_ (fun _ => ?_) | (with_reducible intro _ _; exact .inl rfl) | with_reducible refine nomT_bind ?_ (fun _ => ?_) | with_reducible refine nomT_map ?_ | with_reducible refine nomT_ite ?_ ?_ | contradiction | split | dsimp only | intro _))
theorem nomT_addrMod {k : IntKind} {a : Addr} {n : Int} : NoT P (Op.addrMod k a n) := by
  unfold Op.addrMod
  all_goals (repeat' (first | with_reducible assumption | with_reducible exact nomT_pure .. | with_reducible exact nomT_unsupported .. | with_reducible exact nomT_typeInfo .. | with_reducible exact nomT_byteOf .. | with_reducible refine nomQ_shape ?_ (fun _ => ?_) | (with_reducible intro _ _; exact .inl rfl) | with_reducible refine nomT_bind ?_ (fun _ => ?_) | with_reducible refine nomT_map ?_ | with_reducible refine nomT_ite ?_ ?_ | contradiction | split | dsimp only | intro _))
end
end Go.Proofs.Ytkbfcaaihellfaa
