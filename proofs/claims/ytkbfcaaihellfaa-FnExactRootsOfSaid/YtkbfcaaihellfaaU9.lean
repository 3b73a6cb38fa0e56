/- Steps on the way to the law; each part says what it proves. -/
import Derived.Test.YtkbfcaaihellfaaU4
import Derived.Conc.Pipeline3
import Derived.Conc.CrowdRun
import Derived.Test.YtkbfcaaihellfaaU8
import Derived.Test.YtkbfcaaihellfaaU5

set_option linter.unusedSimpArgs false

/- A goroutine alone on its way to the end of the run, its trace kept. No program in sight. -/
namespace Go.Proofs.Ytkbfcaaihellfaa
open Go.Conc Go.ConcN
set_option linter.unusedVariables false
set_option linter.unusedSectionVars false
set_option linter.unusedSimpArgs false

/-- One goroutine's doing: no mark but the request for room; touches below n. -/
structure TrOk (n : Nat) (t : Trace) : Prop where
  g : ∀ op ∈ t, op.g = 0
  mks : ∀ op ∈ t, ∀ m, op.act = .mark m → m = .noRoom
  low : ∀ op ∈ t, ∀ x, op.act.touch? = some x → x.loc.isMemory = true → blk x.loc < n
theorem TrOk.nil (n : Nat) : TrOk n #[] := ⟨by simp, by simp, by simp⟩
theorem TrOk.mono {n n' : Nat} {t : Trace} (h : TrOk n t) (hn : n ≤ n') : TrOk n' t := ⟨h.g, h.mks, fun op hop x hx hm => Nat.lt_of_lt_of_le (h.low op hop x hx hm) hn⟩
theorem evP_act {n : Nat} {e : Event} (h : EvP n e) : (∀ m, MemAct.ofEvent e = .mark m → m = .noRoom) ∧ ∀ x, (MemAct.ofEvent e).touch? = some x → x.loc.isMemory = true → blk x.loc < n := by
  obtain ⟨loc, wr, sy⟩ := e
  obtain ⟨h1, h2⟩ := h
  cases loc with
  | mark m =>
    have := h1 m rfl
    subst this
    constructor
    · intro m hm
      have : MemAct.ofEvent ⟨.mark .noRoom, wr, sy⟩ = .mark .noRoom := by cases wr <;> cases sy <;> rfl
      rw [this] at hm
      cases hm; rfl
    · intro x hx
      have : MemAct.ofEvent ⟨.mark .noRoom, wr, sy⟩ = .mark .noRoom := by cases wr <;> cases sy <;> rfl
      rw [this] at hx
      cases hx
  | cell a =>
    constructor
    · intro m hm; cases wr <;> cases sy <;> cases hm
    · intro x hx hm
      have : x.loc = .cell a := by cases wr <;> cases sy <;> (cases hx; rfl)
      rw [this] at hm ⊢
      exact h2 hm
  | obj r =>
    constructor
    · intro m hm; cases wr <;> cases sy <;> cases hm
    · intro x hx hm
      have : x.loc = .obj r := by cases wr <;> cases sy <;> (cases hx <;> rfl)
      rw [this] at hm ⊢
      exact h2 hm
  | output =>
    constructor
    · intro m hm; cases wr <;> cases sy <;> cases hm
    · intro x hx hm
      have : x.loc = .output := by cases wr <;> cases sy <;> (cases hx; rfl)
      rw [this] at hm; cases hm
  | goroutines =>
    constructor
    · intro m hm; cases wr <;> cases sy <;> cases hm
    · intro x hx hm
      have : x.loc = .goroutines := by cases wr <;> cases sy <;> (cases hx; rfl)
      rw [this] at hm; cases hm
theorem mem_ofEv {g : Nat} {fn : FuncId} {pos : String} {es : Array Event} {op : MemOp} (h : op ∈ MemOp.ofEvents g fn pos es) : op.g = g ∧ ∃ e ∈ es, op.act = .ofEvent e := by
  unfold MemOp.ofEvents at h
  split at h
  · simp at h
  · obtain ⟨e, he, rfl⟩ := Array.mem_map.1 h
    exact ⟨rfl, e, he, rfl⟩
theorem TrOk.app {n n' : Nat} {t : Trace} {es : Array Event} (h : TrOk n t) (hn : n ≤ n') (he : ∀ e ∈ es, EvP n' e) (fn : FuncId) (pos : String) : TrOk n' (t ++ MemOp.ofEvents 0 fn pos es) := by
  have h' := h.mono hn
  refine ⟨fun op hop => ?_, fun op hop => ?_, fun op hop => ?_⟩
  · rcases Array.mem_append.1 hop with hop | hop
    · exact h'.g op hop
    · exact (mem_ofEv hop).1
  · rcases Array.mem_append.1 hop with hop | hop
    · exact h'.mks op hop
    · obtain ⟨_, e, h1, h2⟩ := mem_ofEv hop
      intro m hm
      rw [h2] at hm
      exact (evP_act (he e h1)).1 m hm
  · rcases Array.mem_append.1 hop with hop | hop
    · exact h'.low op hop
    · obtain ⟨_, e, h1, h2⟩ := mem_ofEv hop
      intro x hx
      rw [h2] at hx
      exact (evP_act (he e h1)).2 x hx
section
variable {P : Program} {Post : Value → World → Prop}
/-- FROM HERE THE RUN ENDS WELL. -/
def EndsWell (P : Program) (Post : Value → World → Prop) (m : Machine) (t : Trace) : Prop :=
  ∃ N last o w' t', runNT P (N + 1) m t = (.ended o w', t') ∧ runN P N m = .next last ∧ step P last = .ended o w' ∧ Go.Conc.Good P Post last o w' t'
theorem EndsWell.steps {m m' : Machine} {t t' : Trace} {k : Nat} (h : runNT P k m t = (.next m', t')) (he : EndsWell P Post m' t') : EndsWell P Post m t := by
  obtain ⟨N, last, o, w', t'', h1, h2, h3, h4⟩ := he
  refine ⟨k + N, last, o, w', t'', ?_, ?_, h3, h4⟩
  · rw [Nat.add_assoc, runNT_add, h]; exact h1
  · rw [runN_add, ← runNT_fst P _ _ t, h]; exact h2
/-- .. whatever it has done so far, as far as it touched nothing at or behind its memory's end. -/
def LT (P : Program) (Post : Value → World → Prop) (_ : Unit) (g : Goroutine) (w : World) : Prop := ∀ t, TrOk w.heap.size t → EndsWell P Post (crowd #[g] w none) t
/-- .. at or behind n. -/
def LTn (P : Program) (Post : Value → World → Prop) (n : Nat) (_ : Unit) (g : Goroutine) (w : World) : Prop := ∀ t, TrOk n t → EndsWell P Post (crowd #[g] w none) t
def DT (_ : Unit) (w w' : World) (es : Array Event) (_ : Unit) : Prop := w.heap.size ≤ w'.heap.size ∧ ∀ e ∈ es, EvP w'.heap.size e
def DTn (n : Nat) (_ : Unit) (w w' : World) (es : Array Event) (_ : Unit) : Prop := ∀ e ∈ es, EvP n e
def RT (_ : Unit) (w w₁ : World) : Prop := w₁ = w
theorem run_one {g g' : Goroutine} {w w' : World} {es : Array Event} (hs : g.status = .running) (h : stepG P true g w = .go g' w' es) (t : Trace) : runNT P 1 (crowd #[g] w none) t = (.next (crowd #[g'] w' none), t ++ MemOp.ofEvents 0 g.frame.fn g.frame.place es) := by
  have h1 : stepT P (crowd #[g] w none) = runT P (crowd #[g] w none) 0 := stepT_solo hs
  have h2 := runT_crowd_go (P := P) (gs := #[g]) (w := w) (sl := none) (i := 0) rfl (by simpa using h)
  simp only [runNT, h1, h2]
  simp
theorem clo_lt : Clo P true RT DT (LT P Post) := by
  refine ⟨fun h r => (by unfold RT at r; subst r; exact h), fun hs h t ht => ?_, fun y w => ⟨Nat.le_refl _, by simp⟩, fun y w => ⟨Nat.le_refl _, by simp⟩⟩
  obtain ⟨g', w', es, _, h1, h2, h3⟩ := h _ rfl
  exact (h3 _ (ht.app h2.1 h2.2 _ _)).steps (run_one hs h1 t)
theorem clo_ltn {n : Nat} : Clo P true RT (DTn n) (LTn P Post n) := by
  refine ⟨fun h r => (by unfold RT at r; subst r; exact h), fun hs h t ht => ?_, fun y w => by simp [DTn], fun y w => by simp [DTn]⟩
  obtain ⟨g', w', es, _, h1, h2, h3⟩ := h _ rfl
  exact (h3 _ (ht.app (Nat.le_refl _) h2 _ _)).steps (run_one hs h1 t)
theorem lt_of_ltn {g : Goroutine} {w : World} (h : LTn P Post w.heap.size () g w) : LT P Post () g w := h
/-- THE RETURN of a goroutine that was alone. -/
theorem TrOk.done {n : Nat} {t : Trace} (h : TrOk n t) {m : Machine} {v : Value} {w : World} (hm : m.gs.size = 1) (ht : m.rest.timers = #[]) (hp : Post v w) : Go.Conc.Good P Post m (.done v) w t := by
  have g0 : ∀ {i g : Nat}, t.g? i = some g → g = 0 := fun {i g} hg => by
    obtain ⟨op, ho, rfl⟩ := Option.map_eq_some_iff.1 hg
    exact h.g op (Array.mem_of_getElem? ho)
  refine ⟨v, rfl, hp, fun said => ?_, fun i g hg hne => absurd (g0 hg) hne, ⟨fun g hg => ?_, by rw [ht]; rfl⟩, fun i g hg hne => ?_⟩
  · have := noRace_append (t := #[]) (u := t) (g := 0) (noRace_nil said) h.g (fun i a ha => by simp [touchAt, Trace.act?] at ha)
    simpa using this
  · rw [List.drop_eq_nil_of_le (by simp [hm])] at hg
    cases hg
  · have := (Array.getElem?_eq_some_iff.1 hg).1
    omega
theorem lt_done {g : Goroutine} {w w' : World} {v : Value} {es : Array Event} (hs : g.status = .running) (h : stepG P true g w = .ended (.done v) w' es) (hw : w.heap.size ≤ w'.heap.size) (he : ∀ e ∈ es, EvP w'.heap.size e) (hp : Post v w') : LT P Post () g w := by
  intro t ht
  have h1 : stepT P (crowd #[g] w none) = runT P (crowd #[g] w none) 0 := stepT_solo hs
  have h2 := runT_crowd_ended (P := P) (gs := #[g]) (w := w) (sl := none) (i := 0) rfl (by simpa using h)
  refine ⟨0, crowd #[g] w none, .done v, w', t ++ MemOp.ofEvents 0 g.frame.fn g.frame.place es, ?_, rfl, ?_, TrOk.done (ht.app hw he _ _) rfl rfl hp⟩
  · simp [runNT, h1, h2]
  · simp [step, h1, h2]
/-- what the crowd's law asks of the trace behind the lone stretch -/
theorem TrOk.ct {n Wg : Nat} {t : Trace} (h : TrOk n t) (hn : n ≤ Wg) : (∀ Own Rd, CT (ShN Wg) Own Rd t 0) ∧ (∀ i a, touchAt t i = some a → a.loc.isMemory = true → blk a.loc < n) ∧ NoRelease (Go.ConcR.stA Wg) t ∧ Deaf t 0 = 0 := by
  refine ⟨fun Own Rd => CT.lone h.g fun op hop x hx hs => ?_, fun i a ha hm => ?_, fun i hi => ?_, ?_⟩
  · obtain ⟨b, e, hb⟩ := hs
    have := h.low op hop x hx (by rw [e]; rfl)
    rw [e] at this
    have : b.block < n := this
    omega
  · obtain ⟨op, ho, hx⟩ := touch_of ha
    exact h.low op (Array.mem_of_getElem? ho) a hx hm
  · obtain ⟨op, ho, he⟩ := Option.map_eq_some_iff.1 hi
    have := h.mks op (Array.mem_of_getElem? ho) _ he
    cases this
  · have := Deaf_still #[] 0 t fun op hop => ⟨fun hm => (nomatch h.mks op hop _ hm), fun hm => (nomatch h.mks op hop _ hm)⟩
    simpa [Deaf, Trace.deaf] using this
end
end Go.Proofs.Ytkbfcaaihellfaa

/- A goroutine alone (others that only leave do not count): on every schedule its run ends well. No program in sight. -/
namespace Go.Proofs.Ytkbfcaaihellfaa
open Go.Conc Go.ConcN
set_option linter.unusedVariables false
set_option linter.unusedSectionVars false

/-- the shunned blocks, and one more -/
def Sw (Sb : Nat → Prop) (Wg : Nat) (b : Nat) : Prop := Sb b ∨ b = Wg
section
variable {P : Program} {Sb Sb' : Nat → Prop} {Post : Value → World → Prop}
/-- FROM HERE, ALONE, THE RUN ENDS WELL, on every schedule; shy of Sb. -/
def LA (P : Program) (Sb : Nat → Prop) (Post : Value → World → Prop) (_ : Unit) (g : Goroutine) (w : World) : Prop := ∀ t, TrOk w.heap.size t → Wn P Sb Post #[g] w t
/-- .. whatever it has done so far, as far as it touched nothing at or behind n -/
def LAn (P : Program) (Sb : Nat → Prop) (Post : Value → World → Prop) (n : Nat) (_ : Unit) (g : Goroutine) (w : World) : Prop := ∀ t, TrOk n t → Wn P Sb Post #[g] w t
def RA1 (_ : Unit) (w w₁ : World) : Prop := AtRel w w₁
def DA (Sb : Nat → Prop) (_ : Unit) (w w' : World) (es : Array Event) (_ : Unit) : Prop := w.heap.size ≤ w'.heap.size ∧ ∀ e ∈ es, EvP w'.heap.size e ∧ Shy Sb e
def DAn (Sb : Nat → Prop) (n : Nat) (_ : Unit) (w w' : World) (es : Array Event) (_ : Unit) : Prop := ∀ e ∈ es, EvP n e ∧ Shy Sb e
theorem nx_one {g : Goroutine} {w : World} {t : Trace} (hs : g.status = .running)
    (h : ∀ d, (∃ v w' es, stepG P true g (w.at d) = .ended (.done v) w' es ∧ (∀ e ∈ es, Shy Sb e) ∧ Fin P Post #[g] v w' (t ++ MemOp.ofEvents 0 g.frame.fn g.frame.place es)) ∨
      ∃ g' w' es, stepG P true g (w.at d) = .go g' w' es ∧ (∀ e ∈ es, Shy Sb e) ∧ Wn P Sb Post #[g'] w' (t ++ MemOp.ofEvents 0 g.frame.fn g.frame.place es)) : Wn P Sb Post #[g] w t := by
  refine .mk ⟨0, g, rfl, hs⟩ (fun o ho => by simp at ho; subst ho; exact again_running w (.inl hs)) ⟨fun o ho => by simp at ho; subst ho; exact awake_of (.inl hs), fun i g' d hi hr => ?_⟩
  have h0 : i = 0 := by have := (Array.getElem?_eq_some_iff.1 hi).1; simpa using this
  subst h0
  obtain rfl : g = g' := by simpa using hi
  rcases h d with ⟨v, w', es, h1, h2, h3⟩ | ⟨g', w', es, h1, h2, h3⟩
  · exact .inl ⟨rfl, v, w', es, h1, h2, h3⟩
  · refine .inr ⟨_, w', _, .go (i := 0) hi (by simpa using h1) h2, fun e => absurd (by simp) e, ?_⟩
    simpa using h3
theorem clo_la : Clo P true RA1 (DA Sb) (LA P Sb Post) := by
  refine ⟨fun {y g w w₁} h r => ?_, fun {y g w} hs h t ht => ?_, fun y w => ⟨Nat.le_refl _, by simp⟩, fun y w => ⟨Nat.le_refl _, by simp⟩⟩
  · obtain ⟨d, rfl⟩ := r
    exact fun t ht => (h t ht).at d
  · refine (nx_one hs fun d => .inr ?_)
    obtain ⟨g', w', es, _, h1, h2, h3⟩ := h (w.at d) ⟨d, rfl⟩
    exact ⟨g', w', es, h1, fun e he => (h2.2 e he).2, h3 _ (ht.app h2.1 (fun e he => (h2.2 e he).1) _ _)⟩
theorem clo_lan {n : Nat} : Clo P true RA1 (DAn Sb n) (LAn P Sb Post n) := by
  refine ⟨fun {y g w w₁} h r => ?_, fun {y g w} hs h t ht => ?_, fun y w => by simp [DAn], fun y w => by simp [DAn]⟩
  · obtain ⟨d, rfl⟩ := r
    exact fun t ht => (h t ht).at d
  · refine (nx_one hs fun d => .inr ?_)
    obtain ⟨g', w', es, _, h1, h2, h3⟩ := h (w.at d) ⟨d, rfl⟩
    exact ⟨g', w', es, h1, fun e he => (h2 e he).2, h3 _ (ht.app (Nat.le_refl _) (fun e he => (h2 e he).1) _ _)⟩
theorem la_of_lan {g : Goroutine} {w : World} (h : LAn P Sb Post w.heap.size () g w) : LA P Sb Post () g w := h
theorem la_at {g : Goroutine} {w : World} {d : Nat} (h : LA P Sb Post () g w) : LA P Sb Post () g (w.at d) := fun t ht => (h t ht).at d
/-- THE RETURN of a goroutine that is alone. -/
theorem la_done {g : Goroutine} {w : World} {v : Value} (hs : g.status = .running) (h : ∀ d, stepG P true g (w.at d) = .ended (.done v) (w.at d) #[]) (hp : ∀ d, Post v (w.at d)) : LA P Sb Post () g w := by
  intro t ht
  refine (nx_one hs fun d => .inl ⟨v, _, _, h d, by simp, hp d, ?_⟩)
  have e : t ++ MemOp.ofEvents 0 g.frame.fn g.frame.place #[] = t := by simp [MemOp.ofEvents]
  rw [e]
  refine ⟨fun said => ?_, fun i k hg hne => ?_, fun i k h0 hi => ?_⟩
  · have := noRace_append (t := #[]) (u := t) (g := 0) (noRace_nil said) ht.g (fun i a ha => by simp [touchAt, Trace.act?] at ha)
    simpa using this
  · obtain ⟨op, ho, rfl⟩ := Option.map_eq_some_iff.1 hg
    exact absurd (ht.g op (Array.mem_of_getElem? ho)) hne
  · have := (Array.getElem?_eq_some_iff.1 hi).1
    simp at this
    omega
/-- BESIDE LEAVERS, over an old trace: as alone. -/
theorem beside0 {gs : Array Goroutine} {g : Goroutine} {w : World} {t : Trace} {q : Nat → Nat} (hsub : ∀ b, Sb b → Sb' b) (hP : PastS Sb' t) (h0 : gs[0]? = some g) (hL : Leavers P t gs q) (h : LA P Sb' Post () g w) : Wn P Sb Post gs w t := by
  have hlt : 0 < gs.size := (Array.getElem?_eq_some_iff.1 h0).1
  refine beside hsub hP (h #[] (TrOk.nil _)) gs t q (b := gs.size - 1) ⟨by simp, by simp; omega, fun k => ?_, fun i x h1 h2 hx => hL.old i x h1 hx⟩ (RootI.nil Sb') ⟨id, Lk.init hP.hears fun j hj => hL.above j (by omega)⟩
  cases k with
  | zero => rw [sh_zero, h0]; rfl
  | succ k => rw [sh_pos (by omega), Array.getElem?_eq_none (by omega), Array.getElem?_eq_none (by simp)]
end
end Go.Proofs.Ytkbfcaaihellfaa

/- Plain code: a contract of a lone call, whatever the tape, holds in the family of a goroutine alone, though between its steps the count of draws turn, and in a world some of whose rows are not to be touched. No program in sight. -/
namespace Go.Proofs.Ytkbfcaaihellfaa
open Go.Conc Go.ConcN
set_option linter.unusedVariables false
set_option linter.unusedSectionVars false
set_option linter.unusedSimpArgs false

/-- another tape -/
def _root_.Go.World.tp (w : World) (τ : Nat → Question → Nat) (d : Nat) : World := { w with tape := τ, drawn := d }
theorem PR.tp {Sb : Nat → Prop} {v w : World} (h : PR Sb v w) (τ τ' : Nat → Question → Nat) (d d' : Nat) : PR Sb (v.tp τ d) (w.tp τ' d') := ⟨h.size, h.same, h.poi, h.os, h.output⟩
theorem PR.tpl {Sb : Nat → Prop} {v w : World} (h : PR Sb v w) (τ : Nat → Question → Nat) (d : Nat) : PR Sb (v.tp τ d) w := ⟨h.size, h.same, h.poi, h.os, h.output⟩
theorem PR.tpr {Sb : Nat → Prop} {v w : World} (h : PR Sb v w) (τ : Nat → Question → Nat) (d : Nat) : PR Sb v (w.tp τ d) := ⟨h.size, h.same, h.poi, h.os, h.output⟩
theorem PR.atr {Sb : Nat → Prop} {v w : World} (h : PR Sb v w) (d : Nat) : PR Sb v (w.at d) := ⟨h.size, h.same, h.poi, h.os, h.output⟩
theorem PR.rfl0 (w : World) (τ : Nat → Question → Nat) (d : Nat) : PR (fun _ => False) w (w.tp τ d) := ⟨rfl, fun _ _ => rfl, fun _ h => h.elim, rfl, rfl⟩

structure LSt where
  fr : Frame
  l : List Frame
  w : World
section
variable {P : Program} {F : FuncId → Bool} {Sb : Nat → Prop} {T : Unit → Goroutine → World → Prop} {c : Frame} {cs : List Frame}

/-- a step of plain code at a count of draws -/
def Good1 (P : Program) (F : FuncId → Bool) (Sb : Nat → Prop) (σ : LSt) (d : Nat) (σ' : LSt) : Prop :=
  CleanF P F σ'.fr ∧ (∀ x ∈ σ'.l, CleanF P F x ∧ x.mode = .run) ∧ ∃ es, (∀ main cs, stepG P main (G σ.fr (σ.l ++ cs)) (σ.w.at d) = .go (G σ'.fr (σ'.l ++ cs)) σ'.w es) ∧ DA Sb () (σ.w.at d) σ'.w es () ∧ TwinS P σ.fr σ.l (σ.w.at d) σ'.fr σ'.l σ'.w es
open Classical in
noncomputable def dOf (P : Program) (F : FuncId → Bool) (Sb : Nat → Prop) (Bad : LSt → Prop) (σ : LSt) : Nat := if h : ∃ d, ∀ σ', Good1 P F Sb σ d σ' → Bad σ' then Classical.choose h else 0
open Classical in
noncomputable def nOf (P : Program) (F : FuncId → Bool) (Sb : Nat → Prop) (Bad : LSt → Prop) (σ : LSt) : LSt := if h : ∃ σ', Good1 P F Sb σ (dOf P F Sb Bad σ) σ' then Classical.choose h else σ
noncomputable def pathOf (P : Program) (F : FuncId → Bool) (Sb : Nat → Prop) (Bad : LSt → Prop) (σ : LSt) : Nat → LSt
  | 0 => σ
  | n + 1 => nOf P F Sb Bad (pathOf P F Sb Bad σ n)
def Stuck (P : Program) (F : FuncId → Bool) (Sb : Nat → Prop) (Bad : LSt → Prop) (σ : LSt) : Prop := ¬ ∃ σ', Good1 P F Sb σ (dOf P F Sb Bad σ) σ'
theorem nOf_good {Bad : LSt → Prop} {σ : LSt} (h : ¬ Stuck P F Sb Bad σ) : Good1 P F Sb σ (dOf P F Sb Bad σ) (nOf P F Sb Bad σ) := by
  have h' : ∃ σ', Good1 P F Sb σ (dOf P F Sb Bad σ) σ' := Classical.byContradiction h
  unfold nOf
  rw [dif_pos h']
  exact Classical.choose_spec h'
theorem nOf_stuck {Bad : LSt → Prop} {σ : LSt} (h : Stuck P F Sb Bad σ) : nOf P F Sb Bad σ = σ := by
  unfold nOf
  rw [dif_neg h]
/-- how many draws the first n steps of the path take -/
noncomputable def posOf (P : Program) (F : FuncId → Bool) (Sb : Nat → Prop) (Bad : LSt → Prop) (σ : LSt) : Nat → Nat
  | 0 => 0
  | n + 1 => posOf P F Sb Bad σ n + ((pathOf P F Sb Bad σ (n + 1)).w.drawn - dOf P F Sb Bad (pathOf P F Sb Bad σ n))
def InWin (P : Program) (F : FuncId → Bool) (Sb : Nat → Prop) (Bad : LSt → Prop) (σ : LSt) (p j : Nat) : Prop :=
  posOf P F Sb Bad σ j ≤ p ∧ (p < posOf P F Sb Bad σ (j + 1) ∨ Stuck P F Sb Bad (pathOf P F Sb Bad σ j)) ∧ ∀ i, i < j → ¬ Stuck P F Sb Bad (pathOf P F Sb Bad σ i)
open Classical in
noncomputable def idxOf (P : Program) (F : FuncId → Bool) (Sb : Nat → Prop) (Bad : LSt → Prop) (σ : LSt) (p : Nat) : Nat :=
  if h : ∃ j, InWin P F Sb Bad σ p j then Classical.choose h else 0
/-- THE SPLICED TAPE -/
noncomputable def tapeOf (P : Program) (F : FuncId → Bool) (Sb : Nat → Prop) (Bad : LSt → Prop) (σ : LSt) (p : Nat) : Question → Nat :=
  σ.w.tape (dOf P F Sb Bad (pathOf P F Sb Bad σ (idxOf P F Sb Bad σ p)) + (p - posOf P F Sb Bad σ (idxOf P F Sb Bad σ p)))
theorem pos_mono {Bad : LSt → Prop} {σ : LSt} : ∀ {i j : Nat}, i ≤ j → posOf P F Sb Bad σ i ≤ posOf P F Sb Bad σ j := by
  intro i j h
  induction h with
  | refl => exact Nat.le_refl _
  | step _ ih => exact Nat.le_trans ih (Nat.le_add_right _ _)
theorem win_lt {Bad : LSt → Prop} {σ : LSt} {p i j : Nat} (hi : InWin P F Sb Bad σ p i) (hj : InWin P F Sb Bad σ p j) : ¬ i < j := fun hlt => by
  rcases hi.2.1 with h | h
  · have := pos_mono (P := P) (F := F) (Sb := Sb) (Bad := Bad) (σ := σ) (show i + 1 ≤ j by omega)
    have := hj.1
    omega
  · exact hj.2.2 i hlt h
theorem idx_eq {Bad : LSt → Prop} {σ : LSt} {p n : Nat} (hs : ∀ i, i < n → ¬ Stuck P F Sb Bad (pathOf P F Sb Bad σ i)) (h1 : posOf P F Sb Bad σ n ≤ p) (h2 : p < posOf P F Sb Bad σ (n + 1) ∨ Stuck P F Sb Bad (pathOf P F Sb Bad σ n)) : idxOf P F Sb Bad σ p = n := by
  classical
  have hex : ∃ j, InWin P F Sb Bad σ p j := ⟨n, h1, h2, hs⟩
  have e : idxOf P F Sb Bad σ p = Classical.choose hex := by unfold idxOf; rw [dif_pos hex]
  have hc := Classical.choose_spec hex
  rw [e]
  have := win_lt hc ⟨h1, h2, hs⟩
  have := win_lt ⟨h1, h2, hs⟩ hc
  omega
theorem tape_at {Bad : LSt → Prop} {σ : LSt} {n i : Nat} (hs : ∀ i, i < n → ¬ Stuck P F Sb Bad (pathOf P F Sb Bad σ i)) (h2 : posOf P F Sb Bad σ n + i < posOf P F Sb Bad σ (n + 1) ∨ Stuck P F Sb Bad (pathOf P F Sb Bad σ n)) :
    tapeOf P F Sb Bad σ (posOf P F Sb Bad σ n + i) = σ.w.tape (dOf P F Sb Bad (pathOf P F Sb Bad σ n) + i) := by
  unfold tapeOf
  rw [idx_eq hs (Nat.le_add_right _ _) h2]
  congr 2
  omega

/-- A LONE CONTRACT OF A PLAIN FUNCTION, whatever the tape, in a world whose rows of Sb are emptied: so in the true world, between whatever draws, shy of Sb. -/
theorem callsA (hP : Plain P F) (hT : Clo P true RA1 (DA Sb) T) {f : FuncId} (hf : F f = true) {args : Array Value} {v w : World} (hv : PR Sb v w) {Q : (Nat → Question → Nat) → Ending → World → Prop} {Post : Value → World → Prop}
    (h : ∀ τ, Calls P f args (v.tp τ 0) (Q τ)) (hq : ∀ τ e v', Q τ e v' → ∃ x, e = .returned x ∧ ∀ w', PR Sb v' w' → v'.tape = τ → w'.tape = w.tape → Post x w') : CallsT P T f args () w (fun x _ w' => Post x w') := by
  intro c cs hc
  refine Classical.byContradiction fun hbad => ?_
  -- from here on: T does not hold
  let Bad : LSt → Prop := fun σ => ¬ T () (G σ.fr (σ.l ++ c :: cs)) σ.w
  let σ0 : LSt := ⟨Frame.enter P f args .normal, [], w⟩
  have hstep : ∀ σ : LSt, Bad σ → ∃ d, ∀ σ', Good1 P F Sb σ d σ' → Bad σ' := fun σ hσ => Classical.byContradiction fun hno => hσ (hT.step rfl fun w₁ r => by
    obtain ⟨d, rfl⟩ := r
    have hno' : ¬ ∀ σ', Good1 P F Sb σ d σ' → Bad σ' := fun h => hno ⟨d, h⟩
    obtain ⟨σ', hσ'⟩ := Classical.not_forall.1 hno'
    obtain ⟨hg, hb⟩ := Classical.not_imp.1 hσ'
    obtain ⟨_, _, es, h1, h2, _⟩ := hg
    exact ⟨_, σ'.w, es, (), h1 true (c :: cs), h2, Classical.not_not.1 hb⟩)
  have hd : ∀ σ : LSt, Bad σ → ∀ σ', Good1 P F Sb σ (dOf P F Sb Bad σ) σ' → Bad σ' := fun σ hσ => by
    classical
    have hex := hstep σ hσ
    have e : dOf P F Sb Bad σ = Classical.choose hex := by unfold dOf; rw [dif_pos hex]
    rw [e]
    exact Classical.choose_spec hex
  have hbads : ∀ n, Bad (pathOf P F Sb Bad σ0 n) := by
    intro n
    induction n with
    | zero => exact hbad
    | succ n ih =>
      by_cases hs : Stuck P F Sb Bad (pathOf P F Sb Bad σ0 n)
      · show Bad (nOf P F Sb Bad _)
        rw [nOf_stuck hs]; exact ih
      · exact hd _ ih _ (nOf_good hs)
  obtain ⟨e, v', fe, hQ, hcm, hfn, hlv⟩ := h (tapeOf P F Sb Bad σ0) [doorF P]
  obtain ⟨x, rfl, hpost⟩ := hq _ e v' hQ
  obtain ⟨N, hN⟩ := hcm
  -- the lone run stands where the path does
  have main : ∀ n, n ≤ N → (∀ i, i < n → ¬ Stuck P F Sb Bad (pathOf P F Sb Bad σ0 i)) ∧ CleanF P F (pathOf P F Sb Bad σ0 n).fr ∧ (∀ y ∈ (pathOf P F Sb Bad σ0 n).l, CleanF P F y ∧ y.mode = .run) ∧ (pathOf P F Sb Bad σ0 n).w.tape = w.tape ∧
      ∃ vn, runN P (N - n) (lone (pathOf P F Sb Bad σ0 n).fr ((pathOf P F Sb Bad σ0 n).l ++ [doorF P]) vn) = .next (lone fe [doorF P] v') ∧ PR Sb vn (pathOf P F Sb Bad σ0 n).w ∧ vn.tape = tapeOf P F Sb Bad σ0 ∧ vn.drawn = posOf P F Sb Bad σ0 n := by
    intro n
    induction n with
    | zero => exact fun _ => ⟨fun i hi => absurd hi (by omega), (CleanF.enter hP hf args).1, by intro y hy; simp [pathOf, σ0] at hy, rfl, _, hN, hv.tpl _ _, rfl, rfl⟩
    | succ n ih =>
      intro hn
      obtain ⟨hns, hcl, hll, htw, vn, hrun, hpr, hvt, hvd⟩ := ih (by omega)
      generalize hσ : pathOf P F Sb Bad σ0 n = σ at hcl hll htw hrun hpr
      have hbσ : Bad σ := by rw [← hσ]; exact hbads n
      have hlen : N - n = (N - (n + 1)) + 1 := by omega
      rw [hlen] at hrun
      by_cases hpop : σ.fr.mode = .run ∨ σ.l ≠ []
      · rcases clean_step hP hcl hll vn hpop with ⟨fr', l', v1, es, hf', hl', hs, hev, hgo, hm1, hm2, htwin⟩ | ⟨fr', w1, es, hm, hde, hgo⟩ | hen
        · -- THE LONE STEP IS ONE OF PLAIN CODE
          have hst : step P (lone σ.fr (σ.l ++ [doorF P]) vn) = .next (lone fr' (l' ++ [doorF P]) v1) := step_lone_go (by
            have := hgo true [doorF P]
            unfold G at this
            rw [this]; rfl)
          unfold runN at hrun
          rw [hst] at hrun
          -- the true step at the draws d, if the tapes agree
          have true1 : TapeOk vn (σ.w.at (dOf P F Sb Bad σ)) (v1.drawn - vn.drawn) → ∃ σ' : LSt, Good1 P F Sb σ (dOf P F Sb Bad σ) σ' ∧ σ'.fr = fr' ∧ σ'.l = l' ∧ Twin Sb vn (σ.w.at (dOf P F Sb Bad σ)) v1 σ'.w := fun ht => by
            obtain ⟨w1, g1, g2, g3⟩ := htwin Sb (σ.w.at (dOf P F Sb Bad σ)) (hpr.atr _) ht
            rcases clean_step hP hcl hll (σ.w.at (dOf P F Sb Bad σ)) hpop with ⟨fr2, l2, w2, es2, hf2, hl2, hs2, hev2, hgo2, hmm⟩ | ⟨fr2, w2, es2, hm, hde, hgo2⟩ | hen
            · have e0 := (g1 true []).symm.trans (hgo2 true [])
              simp only [List.append_nil, GStep.go.injEq, G, Goroutine.mk.injEq] at e0
              obtain ⟨⟨rfl, rfl, _⟩, rfl, rfl⟩ := e0
              exact ⟨⟨fr', l', w1⟩, ⟨hf', hl', es, hgo2, ⟨hs2, fun e he => ⟨hev2 e he, (g3 e he).shy (hev2 e he).1⟩⟩, hmm⟩, rfl, rfl, g2⟩
            · exfalso
              have e0 := (g1 true []).symm.trans (hgo2 true [])
              simp only [List.append_nil, GStep.go.injEq, G, Goroutine.mk.injEq] at e0
              obtain ⟨⟨rfl, _⟩, _⟩ := e0
              obtain ⟨ch, hm⟩ := hm
              rcases hf'.mode with h | h <;> rw [h] at hm <;> cases hm
            · exfalso
              obtain ⟨o, w2, es2, h2⟩ := hen true []
              rw [g1 true []] at h2
              cases h2
          have hnst : ¬ Stuck P F Sb Bad σ := fun hst => by
            obtain ⟨σ', hg, _⟩ := true1 (fun i hi => by
              rw [hvt, hvd]
              show σ.w.tape (dOf P F Sb Bad σ + i) = _
              rw [tape_at hns (.inr (by rw [hσ]; exact hst)), hσ, htw])
            exact hst ⟨σ', hg⟩
          have hgd := nOf_good hnst
          have hpath : pathOf P F Sb Bad σ0 (n + 1) = nOf P F Sb Bad σ := by show nOf P F Sb Bad _ = _; rw [hσ]
          have hpos : posOf P F Sb Bad σ0 (n + 1) = posOf P F Sb Bad σ0 n + ((nOf P F Sb Bad σ).w.drawn - dOf P F Sb Bad σ) := by
            show posOf P F Sb Bad σ0 n + ((pathOf P F Sb Bad σ0 (n + 1)).w.drawn - dOf P F Sb Bad (pathOf P F Sb Bad σ0 n)) = _
            rw [hpath, hσ]
          obtain ⟨hf3, hl3, es3, hgo3, hda3, hm3, hm4, htwin3⟩ := id hgd
          -- the true step on the spliced tape
          have hdr : (σ.w.at (dOf P F Sb Bad σ)).drawn = dOf P F Sb Bad σ := rfl
          obtain ⟨w3, g1, g2, _⟩ := htwin3 (fun _ => False) ((σ.w.at (dOf P F Sb Bad σ)).tp (tapeOf P F Sb Bad σ0) (posOf P F Sb Bad σ0 n)) (PR.rfl0 _ _ _) (fun i hi => by
            show tapeOf P F Sb Bad σ0 (posOf P F Sb Bad σ0 n + i) = σ.w.tape (dOf P F Sb Bad σ + i)
            rw [tape_at hns (.inl (by rw [hpos]; rw [hdr] at hi; omega)), hσ, htw])
          obtain ⟨w4, k1, k2, _⟩ := htwin Sb ((σ.w.at (dOf P F Sb Bad σ)).tp (tapeOf P F Sb Bad σ0) (posOf P F Sb Bad σ0 n)) ((hpr.atr _).tpr _ _) (fun i hi => by
            show tapeOf P F Sb Bad σ0 (posOf P F Sb Bad σ0 n + i) = vn.tape (vn.drawn + i)
            rw [hvt, hvd])
          have e0 := (g1 true []).symm.trans (k1 true [])
          simp only [List.append_nil, GStep.go.injEq, G, Goroutine.mk.injEq] at e0
          obtain ⟨⟨e1, e2, _⟩, rfl, _⟩ := e0
          rw [hpath]
          refine ⟨fun i hi => ?_, hf3, hl3, hm4.trans htw, v1, ?_, ?_, k2.tape.trans hvt, ?_⟩
          · rcases Nat.lt_or_ge i n with hlt | hge
            · exact hns i hlt
            · obtain rfl : i = n := by omega
              rw [hσ]; exact hnst
          · rw [e1, e2]; exact hrun
          · -- emptied: v1 against the path's next world
            have a1 := k2.pr
            have a2 := g2.pr
            refine ⟨a1.size.trans a2.size.symm, fun r hr => (a1.same r hr).trans (a2.same r id).symm, fun r hr => ?_, a1.os.trans a2.os.symm, a1.output.trans a2.output.symm⟩
            obtain ⟨c', t', f', b1, b2⟩ := a1.poi r hr
            exact ⟨c', t', f', (a2.same r id).trans b1, b2⟩
          · have b1 := k2.drawnW
            have b2 := g2.drawnW
            have b3 := k2.drawn
            rw [hdr] at b2
            rw [hpos, ← hvd]
            have b4 : ((σ.w.at (dOf P F Sb Bad σ)).tp (tapeOf P F Sb Bad σ0) (posOf P F Sb Bad σ0 n)).drawn = posOf P F Sb Bad σ0 n := rfl
            rw [b4] at b1 b2
            omega
        · have hst : step P (lone σ.fr (σ.l ++ [doorF P]) vn) = .next (lone fr' (σ.l ++ [doorF P]) w1) := step_lone_go (by
            have := hgo true [doorF P]
            unfold G at this
            rw [this]; rfl)
          unfold runN at hrun
          rw [hst] at hrun
          exact absurd hrun (trap_dead hlv.1 (N - (n + 1)) fr' σ.l w1 hm hde hll)
        · obtain ⟨o, w1, es, h1⟩ := hen true [doorF P]
          have hst : step P (lone σ.fr (σ.l ++ [doorF P]) vn) = .ended o w1 := step_lone_ended (by
            unfold G at h1
            rw [h1]; rfl)
          exact absurd hrun (runN_ended hst)
      · exfalso
        have hm : σ.fr.mode = .returning := hcl.mode.resolve_left fun h => hpop (.inl h)
        have hl0 : σ.l = [] := Classical.byContradiction fun h => hpop (.inr h)
        obtain ⟨fn, _, h1, _, _, _, h5, _⟩ := hP.info hcl.fn
        obtain ⟨y, hy, he'⟩ := results_tmps (tmps := σ.fr.tmps) h5 P vn
        have hst : step P (lone σ.fr (σ.l ++ [doorF P]) vn) = .next (lone ((doorF P).finish y) [] vn) := by
          rw [hl0]
          exact step_lone_go (by simp [stepG, hm, unwind, hcl.defers, h1, hy, he', doReturn, hcl.kind])
        unfold runN at hrun
        rw [hst] at hrun
        cases hNn : N - (n + 1) with
        | zero =>
          rw [hNn] at hrun
          simp only [runN, Stepped.next.injEq] at hrun
          have := congrArg (fun m => (m.gs[0]?).map (·.callers)) hrun
          simp [lone] at this
        | succ k =>
          rw [hNn] at hrun
          obtain ⟨o, w1, h2⟩ := step_door_in (P := P) (w := vn) (v := y)
          exact absurd hrun (runN_ended h2)
  obtain ⟨_, hcl, _, htw, vn, hrun, hpr, _, _⟩ := main N (Nat.le_refl _)
  have hbN := hbads N
  generalize hσ : pathOf P F Sb Bad σ0 N = σ at hcl hrun hpr hbN htw
  simp only [Nat.sub_self, runN, Stepped.next.injEq] at hrun
  have e1 : σ.fr = fe := by have := congrArg (fun m => (m.gs[0]?).map (·.frame)) hrun; simpa [lone] using this
  have e2 : σ.l = [] := by
    have := congrArg (fun m => (m.gs[0]?).map (·.callers)) hrun
    have h3 : σ.l ++ [doorF P] = [doorF P] := by simpa [lone] using this
    have := congrArg List.length h3
    simp at this
    exact this
  have e3 : vn = v' := by have := congrArg (fun m => m.world) hrun; simpa [lone] using this
  subst e3
  obtain ⟨hm, hdf, hk, fn, h1, h2⟩ := hlv
  rw [← e1] at hm hdf hk h1 h2
  obtain ⟨fn', _, h1', _, _, _, h5, _⟩ := hP.info hcl.fn
  rw [h1] at h1'; cases h1'
  obtain ⟨y, hy⟩ := results_tmpsA (tmps := σ.fr.tmps) h5 P
  refine hbN (hT.step rfl fun w₁ r => ?_)
  obtain ⟨d, rfl⟩ := r
  have e4 : x = y := by
    rw [(hy vn).1] at h2
    cases h2; rfl
  subst e4
  refine ⟨G (c.finish x) cs, σ.w.at d, #[], (), ?_, hT.idle _ _, hc x () (σ.w.at d) (hpost (σ.w.at d) (hpr.atr d) ?_ htw)⟩
  · simp [stepG, G, hm, unwind, hdf, h1, (hy _).1, (hy _).2, doReturn, hk, GStep.after, seen, e2]
  · have := main N (Nat.le_refl _)
    obtain ⟨_, _, _, _, vn2, hrun2, _, ht2, _⟩ := this
    simp only [Nat.sub_self, runN, Stepped.next.injEq] at hrun2
    have : vn2 = vn := by have := congrArg (fun m => m.world) hrun2; simpa [lone] using this
    rw [← this]; exact ht2
end
end Go.Proofs.Ytkbfcaaihellfaa

/- Workers that end by Done, their starter in Wait: a step of a worker's, whatever the starter goes on to. No program in sight. -/
namespace Go.Proofs.Ytkbfcaaihellfaa
open Go.Conc Go.ConcN
open Go.ConcR (KK wgBlock WgAt stA smA rd wr mk Payload Aside2 DC0 Bk g_of_ofEvents bk_of_mute ofEvent_loc_mark deafBehind_cons deafBehind_one)
set_option linter.unusedVariables false
set_option linter.unusedSectionVars false

/-- the families lie apart, and shun Sb -/
structure ApS (Sb : Nat → Prop) (n : Nat) (Sh : Loc → Prop) (Own Rd : Nat → Loc → Prop) : Prop where
  ap : Apart Sh Own Rd
  shy : ∀ k, 1 ≤ k → k ≤ n → ∀ l, Own k l ∨ Rd k l → ¬ Sb (blk l)
/-- Whoever has said its release touches the group's block alone behind it. -/
def RelAll (Wg n : Nat) (t : Trace) (D : Nat → WD) : Prop := ∀ i, i < n → (D i).stage ≤ 6 → ∃ r, RelS Wg t (i + 1) r
theorem shy_bk {Sb : Nat → Prop} {Wg : Nat} {e : Event} (h : Bk Wg e) : Shy Sb e := fun x hx hb => by
  rcases h with h1 | h1 | ⟨b, wr, rfl, _⟩
  · rw [ofEvent_loc_mark h1] at hx; cases hx
  · rw [ofEvent_loc_mark h1] at hx; cases hx
  · simp [MemAct.ofEvent, MemAct.touch?] at hx
    subst hx
    simp
theorem shy_okW' {Sb : Nat → Prop} {Sh : Loc → Prop} {n k : Nat} {Own Rd : Nat → Loc → Prop} (A : ApS Sb n Sh Own Rd) (h1 : 1 ≤ k) (hk : k ≤ n) {fn : FuncId} {pos : String} {es : Array Event} (hok : ∀ op ∈ MemOp.ofEvents k fn pos es, OkW Sh Own Rd k op) : ∀ e ∈ es, Shy Sb e := fun e he x hx hb => by
  have hop : ({ g := k, fn, pos, act := .ofEvent e } : MemOp) ∈ MemOp.ofEvents k fn pos es := by rw [ofEvents_eq]; exact Array.mem_map.2 ⟨e, he, rfl⟩
  rcases (hok _ hop).2 x hx with ⟨_, h, _⟩ | h | ⟨h, _⟩
  · exact h
  · exact absurd hb.2 (A.shy k h1 hk _ (.inl h))
  · exact absurd hb.2 (A.shy k h1 hk _ (.inr h))
section
variable [Payload] (P : Program) (Sb : Nat → Prop) (ty : TypeId) (Wg C n : Nat) (Own Rd : Nat → Loc → Prop) (Lw : Nat → Nat) (val : Nat → Value)
/-- what a step of worker number i's leaves behind -/
def WOut (gs : Array Goroutine) (w : World) (t : Trace) (D : Nat → WD) (d0 : Nat) (tag : CTag) (i : Nat) (g : Goroutine) : Prop :=
  ∃ (g' : Goroutine) (w' : World) (es : Array Event) (x : WD) (st' sm' : Int), stepG P false g w = .go g' w' es ∧ (∀ e ∈ es, Shy Sb e) ∧ RelAll Wg n (t ++ MemOp.ofEvents (i + 1) g.frame.fn g.frame.place es) (upd D i x) ∧
    Com P ty Wg C n Own Rd Lw val n ((gs.map (woken P g g' w')).setIfInBounds (i + 1) g') w' (t ++ MemOp.ofEvents (i + 1) g.frame.fn g.frame.place es) (upd D i x) d0 ∧ WgAt ty Wg w' st' sm' ∧ RC ty Wg C w w' ∧
    (∀ tag', (tag' = tag ∨ (tag = .blk ∧ tag' = .w3)) → (mayWake P g = true → g'.status = .running → tag' ≠ .blk) → Go.ConcN.Mode n (upd D i x) tag' st' sm') ∧
    ((x.stage < (D i).stage ∧ cnt x ≤ cnt (D i)) ∨ (x.stage = (D i).stage ∧ x.fuel + 1 = (D i).fuel))
end

section
variable [Payload] {P : Program} {Sb : Nat → Prop} {ty : TypeId} {Wg C n : Nat} {Own Rd : Nat → Loc → Prop} {Lw : Nat → Nat} {val : Nat → Value} {gs : Array Goroutine} {w : World} {D : Nat → WD} {tag : CTag} {d0 : Nat} {t : Trace} {st sm : Int}

theorem df_cells {es : Array Event} (h : ∀ e ∈ es, e.loc ≠ .mark .disable ∧ e.loc ≠ .mark .enable) {d : Nat} (hd : 0 < d) : ∀ j e, es[j]? = some e → (MemAct.ofEvent e).touch? = none ∨ 0 < deafBehind d (es.extract 0 j) := fun j e he => .inr (by
  rw [deafBehind_idle (fun x hx => h x (Array.mem_extract_iff_getElem.1 hx |> fun ⟨k, hk, e⟩ => by rw [← e]; exact Array.getElem_mem _))]
  exact hd)
theorem df_sem {a : Addr} {d : Nat} : ∀ j e, (semEvents a)[j]? = some e → (MemAct.ofEvent e).touch? = none ∨ 0 < deafBehind d ((semEvents a).extract 0 j) := by
  intro j e he
  match j, he with
  | 0, he => simp [semEvents] at he; subst he; exact .inl rfl
  | 1, _ => exact .inr (by simp [deafBehind, semEvents])
  | 2, _ => exact .inr (by simp [deafBehind, semEvents])
  | 3, he => simp [semEvents] at he; subst he; exact .inl rfl
  | j + 4, he => simp [semEvents] at he
theorem open_upd {i q d : Nat} (h : OpenSt n D) : OpenSt n (upd D i ⟨1, q, d⟩) := fun a ha => by
  by_cases e : a = i
  · subst e; rw [upd_same]; simp
  · rw [upd_ne D _ e]; exact h a ha
theorem last_upd {i s q d : Nat} (hW : isW3 tag) (hi : i < n) (hs : s = 4 ∨ s = 3 ∨ s = 2) (ho : ∀ a, a < n → a ≠ i → (D a).stage = 1) : Go.ConcN.Mode n (upd D i ⟨s, q, d⟩) tag (if s = 2 then 0 else 1) 0 := by
  have := Go.ConcN.Mode.last (j := n) (D := upd D i ⟨s, q, d⟩) (tag := tag) i hW hi (by rw [upd_same]; exact hs) (fun a ha e => by rw [upd_ne D _ e]; exact ho a ha e)
  rwa [upd_same] at this
theorem mute_df {es : Array Event} (h : ∀ e ∈ es, e.mute = true) {d : Nat} : ∀ j e, es[j]? = some e → (MemAct.ofEvent e).touch? = none ∨ 0 < deafBehind d (es.extract 0 j) := fun j e he => .inl (Go.Conc.touch_mute (h e (Array.mem_of_getElem? he)))

set_option maxHeartbeats 1600000 in
theorem worker_out (A : ApS Sb n (ShN Wg) Own Rd) (G : Geo Wg C Lw) (hn : n < 2147483648) (hcom : Com P ty Wg C n Own Rd Lw val n gs w t D d0) (hwg : WgAt ty Wg w st sm) (hmode : Go.ConcN.Mode n D tag st sm) (hp : pend tag = 0) (hrs : RelAll Wg n t D)
    {i : Nat} (hi : i < n) {g : Goroutine} (hg : gs[i + 1]? = some g) (hrun : g.status = .running) : WOut P Sb ty Wg C n Own Rd Lw val gs w t D d0 tag i g := by
  obtain ⟨g₁, hg₁, hs⟩ := hcom.wk i hi
  rw [hg] at hg₁
  cases hg₁
  have hVn := Vc_le n D
  have hdk := hcom.deafW i hi
  have out : ∀ {g' : Goroutine} {w' : World} {es : Array Event} {x : WD} {st' sm' : Int}, stepG P false g w = .go g' w' es → RC ty Wg C w w' → (∀ i', i' < n → i' ≠ i → RW ty Wg C n (Lw (i' + 1)) i' w w') →
      WSit P ty Wg C n Own Rd (Lw (i + 1)) (i + 1) (val i) x.stage x.fuel x.deaf g' w' → (∀ op ∈ MemOp.ofEvents (i + 1) g.frame.fn g.frame.place es, OkW (ShN Wg) Own Rd (i + 1) op) → (∀ e ∈ es, e.loc ≠ .mark (.release (stA Wg))) →
      deafBehind (D i).deaf es = x.deaf → (x.stage ≤ 6 → ∃ r, RelS Wg (t ++ MemOp.ofEvents (i + 1) g.frame.fn g.frame.place es) (i + 1) r) → (x.stage ≤ 6 → Has C i (val i) w') → PayAt C n w' → WgAt ty Wg w' st' sm' →
      (∀ tag', (tag' = tag ∨ (tag = .blk ∧ tag' = .w3)) → (mayWake P g = true → g'.status = .running → tag' ≠ .blk) → Go.ConcN.Mode n (upd D i x) tag' st' sm') → ((x.stage < (D i).stage ∧ cnt x ≤ cnt (D i)) ∨ (x.stage = (D i).stage ∧ x.fuel + 1 = (D i).fuel)) →
      WOut P Sb ty Wg C n Own Rd Lw val gs w t D d0 tag i g := fun {g' w' es x st' sm'} h1 h2 h3 h4 h5 h6 h7 h8 h9 h10 h11 h12 h13 =>
    ⟨g', w', es, x, st', sm', h1, shy_okW' A (by omega) (by omega) h5, fun i' hi' hst => (by
      by_cases e : i' = i
      · subst e; rw [upd_same] at hst; exact h8 hst
      · rw [upd_ne D x e] at hst
        obtain ⟨r, hr⟩ := hrs i' hi' hst
        exact ⟨r, hr.appOther g_of_ofEvents (by omega)⟩), hcom.stepW A.ap hi h3 h4 h5 h6 h7 (fun h => let ⟨r, hr⟩ := h8 h; ⟨r, hr.by_⟩) h9 h10, h11, h2, h12, h13⟩
  -- the library's books: at most the group's block turns
  have book : ∀ {g' : Goroutine} {w' : World} {es : Array Event} {x : WD} {st' sm' : Int}, stepG P false g w = .go g' w' es → Aside Wg w w' → WgAt ty Wg w' st' sm' → (∀ e ∈ es, Bk Wg e) →
      (∀ j e, es[j]? = some e → (MemAct.ofEvent e).touch? = none ∨ 0 < deafBehind (D i).deaf (es.extract 0 j)) → WSit P ty Wg C n Own Rd (Lw (i + 1)) (i + 1) (val i) x.stage x.fuel x.deaf g' w' → deafBehind (D i).deaf es = x.deaf → (D i).stage ≤ 6 →
      (∀ tag', (tag' = tag ∨ (tag = .blk ∧ tag' = .w3)) → (mayWake P g = true → g'.status = .running → tag' ≠ .blk) → Go.ConcN.Mode n (upd D i x) tag' st' sm') → ((x.stage < (D i).stage ∧ cnt x ≤ cnt (D i)) ∨ (x.stage = (D i).stage ∧ x.fuel + 1 = (D i).fuel)) →
      WOut P Sb ty Wg C n Own Rd Lw val gs w t D d0 tag i g := fun {g' w' es x st' sm'} hgo hAs hwg' hbk hdf hs' hd h6 hm hlt => by
    obtain ⟨c, hc1, hc2⟩ := hcom.pay
    refine out hgo (RC.of_wg hAs ⟨_, _, hwg'⟩) (fun i' _ _ => RW.of_wg hAs ⟨_, _, hwg'⟩ G.hCW) hs' (okW_of_Bk hbk) (norel_of_Bk hbk) hd (fun _ => ?_) (fun _ => ?_) ⟨c, (hAs.block C G.hCW).trans hc1, hc2⟩ hwg' hm hlt
    · obtain ⟨r, hr⟩ := hrs i hi h6
      exact ⟨r, hr.book hdk _ _ hbk hdf⟩
    · exact (cell_of_block (hAs.block C G.hCW) i).trans (hcom.has i hi h6)
  have one : ∀ {P : Event → Prop} {e : Event}, P e → ∀ x ∈ #[e], P x := fun h x hx => by simp at hx; subst hx; exact h
  have same : ∀ m' d', Go.ConcN.Mode n (upd D i ⟨(D i).stage, m', d'⟩) tag st sm := fun m' d' => hmode.same m' d'
  have idle : ∀ {g' : Goroutine} {m' : Nat}, stepG P false g w = .go g' w #[] → WSit P ty Wg C n Own Rd (Lw (i + 1)) (i + 1) (val i) (D i).stage m' (D i).deaf g' w → m' + 1 = (D i).fuel → (D i).stage ≤ 6 → WOut P Sb ty Wg C n Own Rd Lw val gs w t D d0 tag i g := fun {g' m'} hgo hs' hm h6 =>
    book (x := ⟨(D i).stage, m', (D i).deaf⟩) hgo (.refl Wg w) hwg (by simp) (by simp) hs' rfl h6 (fun tag' ht _ => (same _ _).retag ht) (.inr ⟨rfl, hm⟩)
  generalize hx : D i = x at hs
  obtain ⟨s, m, dd⟩ := x
  simp only at hs
  cases hs with
  | r0 h =>
    rcases Goes.cases h with hstop | ⟨m', rfl, hstep⟩
    · obtain ⟨_, hhas, g', hgo, m₂, hk⟩ := hstop w (RW.refl w)
      refine out (x := ⟨6, m₂, 0⟩) hgo (.refl w) (fun _ _ _ => RW.refl w) (.k1 hk) (okW_none (one rfl)) (one (by simp [mk])) (by rw [hx]; rfl) (fun _ => ⟨t.size, RelS.new (hdk.trans (by rw [hx])) _ _⟩) (fun _ => by simpa using hhas) hcom.pay hwg
        (fun tag' ht _ => (hmode.counted hi (by rw [hx]; simp) (.inl rfl) _ _).retag ht) (.inl (by rw [hx]; simp [cnt]))
    · obtain ⟨g', w', es, hgo, ⟨hac, hev⟩, hg'⟩ := hstep w (RW.refl w)
      simp only [Nat.add_sub_cancel] at hac
      refine out (x := ⟨7, m', 0⟩) hgo (RC.of_cell hac G.hCW) (fun i' _ e => RW.of_cell hac e G.hCW) (.r0 hg') (okW_of_EvW hev) (fun e he => (hev e he).2.2.2) (by rw [hx]; exact deafBehind_idle (fun e he => ⟨(hev e he).2.1, (hev e he).2.2.1⟩) 0)
        (fun h => absurd h (by simp)) (fun h => absurd h (by simp)) (hac.pay hcom.pay) (hwg.of_block (hac.block Wg (Ne.symm G.hCW))) (fun tag' ht _ => Go.ConcN.Mode.retag (by have := same m' 0; rwa [hx] at this) ht) (.inr (by rw [hx]; exact ⟨rfl, rfl⟩))
  | k1 h =>
    rcases Goes.cases h with hstop | ⟨m', rfl, hstep⟩
    · obtain ⟨_, g', hgo, m₂, hk⟩ := hstop w (RW.refl w)
      refine book (x := ⟨5, m₂, 1⟩) hgo (.refl Wg w) hwg (one (.inl rfl)) (fun j e he => .inl (by have := Array.mem_of_getElem? he; simp at this; subst this; rfl)) (.d1 hk) (by rw [hx]; rfl) (by rw [hx]; simp)
        (fun tag' ht _ => (hmode.counted hi (by rw [hx]; simp) (.inr rfl) _ _).retag ht) (.inl (by rw [hx]; simp [cnt]))
    · obtain ⟨g', w', es, hgo, ⟨rfl, rfl⟩, hg'⟩ := hstep w (RW.refl w)
      exact idle hgo (by rw [hx]; exact .k1 hg') (by rw [hx]) (by rw [hx]; simp)
  | d1 h =>
    rcases Goes.cases h with hstop | ⟨m', rfl, hstep⟩
    · obtain ⟨_, hall⟩ := hstop w (RW.refl w)
      have hc1 : cnt (D i) = 1 := by rw [hx]; rfl
      have hV1 : 1 ≤ Vc n D := by have := le_sumTo (f := fun x => cnt (D x)) hi; simp only [Vc]; omega
      have hvq : ∀ q, Vc n (upd D i ⟨1, q, 1⟩) + 1 = Vc n D := fun q => by
        have := Vc_upd D (⟨1, q, 1⟩ : WD) hi
        have e : cnt (⟨1, q, 1⟩ : WD) = 0 := rfl
        omega
      have two : ∀ e ∈ #[rd (stA Wg), wr (stA Wg)], Bk Wg e := fun e he => by
        simp at he
        rcases he with rfl | rfl <;> exact bk_cell _ _ rfl
      have nob : ∀ e ∈ #[rd (stA Wg), wr (stA Wg)], e.loc ≠ .mark .disable ∧ e.loc ≠ .mark .enable := fun e he => by
        simp at he
        rcases he with rfl | rfl <;> simp [rd, wr]
      have hdf : ∀ j e, (#[rd (stA Wg), wr (stA Wg)] : Array Event)[j]? = some e → (MemAct.ofEvent e).touch? = none ∨ 0 < deafBehind (D i).deaf ((#[rd (stA Wg), wr (stA Wg)] : Array Event).extract 0 j) := by
        rw [hx]
        exact df_cells nob (by simp)
      have hde : deafBehind (D i).deaf #[rd (stA Wg), wr (stA Wg)] = 1 := by rw [hx]; exact deafBehind_idle nob 1
      cases hmode with
      | opn h1 h2 h3 =>
        obtain ⟨v, hv⟩ : ∃ v, Vc n D = v + 1 := ⟨Vc n D - 1, by omega⟩
        rw [hp, hv] at hwg
        obtain ⟨g', hgo, _, hq⟩ := hall v 0 (by omega) (by omega) (by simpa using hwg)
        obtain ⟨q, hq⟩ := hq (by omega)
        refine book (x := ⟨1, q, 1⟩) hgo (aside_setCell w (stA Wg) _) (hwg.setSt _) two hdf (.quit hq) hde (by rw [hx]; simp) (fun tag' ht _ => Go.ConcN.Mode.retag ?_ ht) (.inl (by rw [hx]; simp [cnt]))
        have hv' : Vc n (upd D i ⟨1, q, 1⟩) + pend tag = v := by have := hvq q; omega
        have e : ((v : Nat) : Int) * KK + ((0 : Nat) : Int) = ((Vc n (upd D i ⟨1, q, 1⟩) + pend tag : Nat) : Int) * KK := by rw [hv']; simp
        rw [e]
        exact .opn h1 (open_upd h2) (fun vs ev => by
          have := h3 vs ev
          have := hvq q
          omega)
      | reg h1 h2 h3 =>
        obtain ⟨v, hv⟩ : ∃ v, Vc n D = v + 1 := ⟨Vc n D - 1, by omega⟩
        rw [hv] at hwg
        obtain ⟨g', hgo, hl, hq⟩ := hall v 1 (by omega) (by omega) (by simpa using hwg)
        by_cases hv0 : v = 0
        · subst hv0
          obtain ⟨m₂, hk⟩ := hl ⟨rfl, rfl⟩
          have ho : ∀ a, a < n → a ≠ i → (D a).stage = 1 := fun a ha e => by
            have c0 := others_uncounted hi hv hc1 a ha e
            have := h2 a ha
            simp only [cnt] at c0
            split at c0 <;> omega
          refine book (x := ⟨4, m₂, 1⟩) hgo (aside_setCell w (stA Wg) _) (hwg.setSt _) two hdf (.d2 hk) hde (by rw [hx]; simp) (fun tag' ht _ => Go.ConcN.Mode.retag ?_ ht) (.inl (by rw [hx]; simp [cnt]))
          have := last_upd (q := m₂) (d := 1) h1 hi (.inl rfl) ho
          simpa using this
        · obtain ⟨q, hq⟩ := hq (by omega)
          refine book (x := ⟨1, q, 1⟩) hgo (aside_setCell w (stA Wg) _) (hwg.setSt _) two hdf (.quit hq) hde (by rw [hx]; simp) (fun tag' ht _ => Go.ConcN.Mode.retag ?_ ht) (.inl (by rw [hx]; simp [cnt]))
          have hv' : Vc n (upd D i ⟨1, q, 1⟩) = v := by have := hvq q; omega
          have e : ((v : Nat) : Int) * KK + ((1 : Nat) : Int) = ((Vc n (upd D i ⟨1, q, 1⟩) : Nat) : Int) * KK + 1 := by rw [hv']; simp
          rw [e]
          exact .reg h1 (open_upd h2) (by omega)
      | last L _ h2 h3 h4 =>
        by_cases e : i = L
        · subst e; rw [hx] at h3; simp at h3
        · have := h4 i hi e; rw [hx] at this; simp at this
      | sema h2 => have := h2 i hi; rw [hx] at this; simp at this
      | fin _ h2 => have := h2 i hi; rw [hx] at this; simp at this
    · obtain ⟨g', w', es, hgo, ⟨rfl, rfl⟩, hg'⟩ := hstep w (RW.refl w)
      exact idle hgo (by rw [hx]; exact .d1 hg') (by rw [hx]) (by rw [hx]; simp)
  | d2 h =>
    rcases Goes.cases h with hstop | ⟨m', rfl, hstep⟩
    · obtain ⟨_, hk⟩ := hstop w (RW.refl w)
      obtain ⟨hW, ho, rfl, rfl⟩ := hmode.isLast hi (by rw [hx]; simp)
      rw [hx] at hwg
      obtain ⟨g', hgo, m₂, hk⟩ := hk (by simpa using hwg)
      refine book (x := ⟨3, m₂, 1⟩) hgo (.refl Wg w) hwg (one (bk_cell _ _ rfl)) (by rw [hx]; exact df_cells (one (by simp [rd])) (by simp)) (.d3 hk) (by rw [hx]; rfl) (by rw [hx]; simp) (fun tag' ht _ => Go.ConcN.Mode.retag ?_ ht) (.inl (by rw [hx]; simp [cnt]))
      have := last_upd (q := m₂) (d := 1) hW hi (.inr (.inl rfl)) ho
      simpa using this
    · obtain ⟨g', w', es, hgo, ⟨rfl, rfl⟩, hg'⟩ := hstep w (RW.refl w)
      exact idle hgo (by rw [hx]; exact .d2 hg') (by rw [hx]) (by rw [hx]; simp)
  | d3 h =>
    rcases Goes.cases h with hstop | ⟨m', rfl, hstep⟩
    · obtain ⟨_, hk⟩ := hstop w (RW.refl w)
      obtain ⟨hW, ho, rfl, rfl⟩ := hmode.isLast hi (by rw [hx]; simp)
      rw [hx] at hwg
      obtain ⟨g', hgo, m₂, hk⟩ := hk (by simpa using hwg)
      refine book (x := ⟨2, m₂, 1⟩) hgo (aside_setCell w (stA Wg) _) (hwg.setSt 0) (one (bk_cell _ _ rfl)) (by rw [hx]; exact df_cells (one (by simp [wr])) (by simp)) (.d4 hk) (by rw [hx]; rfl) (by rw [hx]; simp) (fun tag' ht _ => Go.ConcN.Mode.retag ?_ ht) (.inl (by rw [hx]; simp [cnt]))
      have := last_upd (q := m₂) (d := 1) hW hi (.inr (.inr rfl)) ho
      simpa using this
    · obtain ⟨g', w', es, hgo, ⟨rfl, rfl⟩, hg'⟩ := hstep w (RW.refl w)
      exact idle hgo (by rw [hx]; exact .d3 hg') (by rw [hx]) (by rw [hx]; simp)
  | d4 h =>
    rcases Goes.cases h with hstop | ⟨m', rfl, hstep⟩
    · obtain ⟨_, hmw, hk⟩ := hstop w (RW.refl w)
      obtain ⟨hW, ho, rfl, rfl⟩ := hmode.isLast hi (by rw [hx]; simp)
      rw [hx] at hwg
      obtain ⟨g', hgo, q, hq⟩ := hk (by simpa using hwg)
      have hrun' : g'.status = .running := by
        cases q with
        | zero => exact absurd hq.2 (by decide)
        | succ q => exact hq.elim (fun x => absurd x.2 (by decide)) (fun x => x.1)
      refine book (x := ⟨1, q, 1⟩) hgo (aside_setCell w (smA Wg) _) (hwg.setSm 1) (fun e he => ?_) df_sem (.quit hq) (by rw [hx]; rfl) (by rw [hx]; simp) (fun tag' ht hw => ?_) (.inl (by rw [hx]; simp [cnt]))
      · simp [semEvents] at he
        rcases he with rfl | rfl | rfl | rfl
        · exact .inl rfl
        · exact bk_cell _ _ rfl
        · exact bk_cell _ _ rfl
        · exact .inr (.inl rfl)
      · have hnb := hw hmw hrun'
        have e3 : tag' = .w3 := by
          rcases ht with rfl | ⟨_, rfl⟩
          · cases tag' <;> first | rfl | exact hW.elim | exact absurd rfl hnb
          · rfl
        subst e3
        simp only [if_true]
        exact .sema fun a ha => by
          by_cases e : a = i
          · subst e; rw [upd_same]
          · rw [upd_ne D _ e]; exact ho a ha e
    · obtain ⟨g', w', es, hgo, ⟨rfl, rfl⟩, hg'⟩ := hstep w (RW.refl w)
      exact idle hgo (by rw [hx]; exact .d4 hg') (by rw [hx]) (by rw [hx]; simp)
  | quit h =>
    cases m with
    | zero => rw [h.1] at hrun; cases hrun
    | succ q =>
      rcases h with ⟨hf, _⟩ | ⟨_, g', es, hmute, hstep, hq⟩
      · rw [hf] at hrun; cases hrun
      · refine book (x := ⟨1, q, deafBehind dd es⟩) (hstep w) (.refl Wg w) hwg (fun e he => bk_of_mute (hmute e he)) (mute_df hmute) (.quit hq) (by rw [hx]) (by rw [hx]; simp) (fun tag' ht _ => Go.ConcN.Mode.retag (by have := same q (deafBehind dd es); rwa [hx] at this) ht) (.inr (by rw [hx]; exact ⟨rfl, rfl⟩))
end
end Go.Proofs.Ytkbfcaaihellfaa

/- The starter in Wait, whatever it goes on to: families of predicates that say 'from here the run ends well', one for each place in Wait. No program in sight. -/
namespace Go.Proofs.Ytkbfcaaihellfaa
open Go.Conc Go.ConcN
open Go.ConcR (KK wgBlock WgAt stA smA rd wr mk Payload Aside2 DC0 Bk g_of_ofEvents)
set_option linter.unusedVariables false
set_option linter.unusedSectionVars false

section
variable [Payload] (P : Program) (Sb : Nat → Prop) (Post : Value → World → Prop) (ty : TypeId) (Wg C n : Nat) (Own Rd : Nat → Loc → Prop) (Lw : Nat → Nat) (val : Nat → Value)
/-- FROM HERE, AT THIS PLACE IN WAIT, the run ends well: all n workers are started, V of them at most are counted. -/
def TK (tag : CTag) (d0 V : Nat) (_ : Unit) (g : Goroutine) (w : World) : Prop :=
  ∀ w₁, RC ty Wg C w w₁ → ∀ (gs : Array Goroutine) (t : Trace) (D : Nat → WD) (st sm : Int), gs[0]? = some g → Com P ty Wg C n Own Rd Lw val n gs w₁ t D d0 → WgAt ty Wg w₁ st sm → Go.ConcN.Mode n D tag st sm → Vc n D ≤ V → RelAll Wg n t D →
    Wn P Sb Post gs w₁ t
def RK (_ : Unit) (w w₁ : World) : Prop := RC ty Wg C w w₁
/-- an own step in Wait: memory stands; what it lists is the library's -/
def DK (_ : Unit) (w w' : World) (es : Array Event) (_ : Unit) : Prop := w' = { w with drawn := w'.drawn } ∧ (∀ e ∈ es, Ev0 Wg Own Rd n e) ∧ ∀ e ∈ es, Shy Sb e
end

section
variable [Payload] {P : Program} {Sb : Nat → Prop} {Post : Value → World → Prop} {ty : TypeId} {Wg C n : Nat} {Own Rd : Nat → Loc → Prop} {Lw : Nat → Nat} {val : Nat → Value} {tag : CTag} {d0 V : Nat} {g : Goroutine} {w : World}

theorem awake_com {gs : Array Goroutine} {t : Trace} {D : Nat → WD} (hcom : Com P ty Wg C n Own Rd Lw val n gs w t D d0) (h0 : gs[0]? = some g) (hs : awake g) : ∀ x ∈ gs, awake x := fun x hx => by
  obtain ⟨i, hi⟩ := Array.mem_iff_getElem?.1 hx
  match i, hi with
  | 0, hi => rw [h0] at hi; cases hi; exact hs
  | i + 1, hi =>
    have hlt : i < n := by have := (Array.getElem?_eq_some_iff.1 hi).1; rw [hcom.size] at this; omega
    obtain ⟨g', hg', hw⟩ := hcom.wk i hlt
    rw [hi] at hg'; cases hg'
    exact awake_of (hw.status.elim .inl fun y => .inr (.inr y))
theorem vc_le {D : Nat → WD} {i : Nat} {x : WD} (hi : i < n) (h : (x.stage < (D i).stage ∧ cnt x ≤ cnt (D i)) ∨ (x.stage = (D i).stage ∧ x.fuel + 1 = (D i).fuel)) : Vc n (upd D i x) ≤ Vc n D ∧ (Ssum n (upd D i x) < Ssum n D ∨ (Ssum n (upd D i x) = Ssum n D ∧ Fsum n (upd D i x) < Fsum n D)) := by
  have e1 := sumTo_upd D x cnt hi
  have e2 := sumTo_upd D x WD.stage hi
  have e3 := sumTo_upd D x WD.fuel hi
  simp only [Vc, Ssum, Fsum]
  rcases h with ⟨h1, h2⟩ | ⟨h1, h2⟩
  · exact ⟨by omega, .inl (by omega)⟩
  · have : cnt x = cnt (D i) := by simp only [cnt, h1]
    exact ⟨by omega, .inr ⟨by omega, by omega⟩⟩

theorem still_com {gs : Array Goroutine} {t : Trace} {D : Nat → WD} (hcom : Com P ty Wg C n Own Rd Lw val n gs w t D d0) (h0 : gs[0]? = some g) (hs : g.status = .running) : ∀ x ∈ gs, x.again w = x := fun x hx => by
  obtain ⟨i, hi⟩ := Array.mem_iff_getElem?.1 hx
  match i, hi with
  | 0, hi => rw [h0] at hi; cases hi; exact again_running w (.inl hs)
  | i + 1, hi =>
    have hlt : i < n := by have := (Array.getElem?_eq_some_iff.1 hi).1; rw [hcom.size] at this; omega
    obtain ⟨g', hg', hw⟩ := hcom.wk i hlt
    rw [hi] at hg'; cases hg'
    exact again_running w hw.status
/-- WHOEVER IS PICKED: the starter, which runs, is in the end. -/
theorem tk_go (A : ApS Sb n (ShN Wg) Own Rd) (G : Geo Wg C Lw) (hn : n < 2147483648) (hp : pend tag = 0) (hb : tag ≠ .blk) (hs : g.status = .running)
    (h : ∀ (w₁ : World) (gs : Array Goroutine) (t : Trace) (D : Nat → WD) (st sm : Int), RC ty Wg C w w₁ → gs[0]? = some g → Com P ty Wg C n Own Rd Lw val n gs w₁ t D d0 → WgAt ty Wg w₁ st sm → Go.ConcN.Mode n D tag st sm → Vc n D ≤ V → RelAll Wg n t D →
      ∃ g' w' es, stepG P true g w₁ = .go g' w' es ∧ (∀ e ∈ es, Shy Sb e) ∧ Wn P Sb Post ((gs.map (woken P g g' w')).setIfInBounds 0 g') w' (t ++ MemOp.ofEvents 0 g.frame.fn g.frame.place es)) : TK P Sb Post ty Wg C n Own Rd Lw val tag d0 V () g w := by
  have key : ∀ (μ : Nat × Nat) (w₁ : World), RC ty Wg C w w₁ → ∀ (gs : Array Goroutine) (t : Trace) (D : Nat → WD) (st sm : Int), μ = (Ssum n D, Fsum n D) → gs[0]? = some g → Com P ty Wg C n Own Rd Lw val n gs w₁ t D d0 → WgAt ty Wg w₁ st sm → Go.ConcN.Mode n D tag st sm → Vc n D ≤ V → RelAll Wg n t D →
      Wn P Sb Post gs w₁ t := by
    intro μ
    refine (Prod.lex Nat.lt_wfRel Nat.lt_wfRel).wf.induction (C := fun μ => ∀ (w₁ : World), RC ty Wg C w w₁ → ∀ (gs : Array Goroutine) (t : Trace) (D : Nat → WD) (st sm : Int), μ = (Ssum n D, Fsum n D) → gs[0]? = some g → Com P ty Wg C n Own Rd Lw val n gs w₁ t D d0 → WgAt ty Wg w₁ st sm → Go.ConcN.Mode n D tag st sm → Vc n D ≤ V → RelAll Wg n t D →
      Wn P Sb Post gs w₁ t) μ ?_
    intro μ ih w₁ r gs t D st sm hμ h0 hcom hwg hmode hV hrs
    refine Wn.mk ⟨0, g, h0, hs⟩ (still_com hcom h0 hs) ⟨awake_com hcom h0 (awake_of (.inl hs)), fun i x d hx hr => .inr ?_⟩
    have r' : RC ty Wg C w (w₁.at d) := r.trans (.at w₁ d)
    have hcom' := hcom.at d
    have hwg' : WgAt ty Wg (w₁.at d) st sm := hwg
    match i, hx with
    | 0, hx =>
      obtain rfl : g = x := by rw [h0] at hx; exact Option.some.inj hx
      obtain ⟨g', w', es, h1, h2, h3⟩ := h _ gs t D st sm r' h0 hcom' hwg' hmode hV hrs
      exact ⟨_, w', _, .go hx (by simpa using h1) h2, fun e => absurd (by simp) e, h3⟩
    | i + 1, hx =>
      have hi : i < n := by have := (Array.getElem?_eq_some_iff.1 hx).1; rw [hcom.size] at this; omega
      obtain ⟨g', w', es, y, st', sm', hgo, hsy, hrs2, hc2, hw2, hrc, hm2, hlt⟩ := worker_out A G hn hcom' hwg' hmode hp hrs hi hx hr
      obtain ⟨hv, hlt⟩ := vc_le hi hlt
      have h0' : ((gs.map (woken P x g' w')).setIfInBounds (i + 1) g')[0]? = some g := by
        rw [Array.getElem?_setIfInBounds_ne (by omega), Array.getElem?_map, h0]
        simp [woken_run hs]
      refine ⟨_, w', _, .go hx (by simpa using hgo) hsy, fun e => absurd (by simp) e, ?_⟩
      refine ih _ ?_ w' (r'.trans hrc) _ _ _ _ _ rfl h0' hc2 hw2 (hm2 tag (.inl rfl) (fun _ _ => hb)) (by omega) hrs2
      subst hμ
      rcases hlt with hlt | ⟨he, hlt⟩
      · exact Prod.Lex.left _ _ hlt
      · show Prod.Lex (fun a b : Nat => a < b) (fun a b : Nat => a < b) _ _
        rw [he]
        exact Prod.Lex.right _ hlt
  exact fun w₁ r gs t D st sm h0 hcom hwg hmode hV hrs => key _ w₁ r gs t D st sm rfl h0 hcom hwg hmode hV hrs
end
end Go.Proofs.Ytkbfcaaihellfaa

/- The starter in Wait, whatever it goes on to: its steps. No program in sight. -/
namespace Go.Proofs.Ytkbfcaaihellfaa
open Go.Conc Go.ConcN
open Go.ConcR (KK wgBlock WgAt stA smA rd wr mk Payload Aside2 DC0 Bk g_of_ofEvents again_blocked)
set_option linter.unusedVariables false
set_option linter.unusedSectionVars false

section
variable [Payload] {P : Program} {Sb : Nat → Prop} {Post : Value → World → Prop} {ty : TypeId} {Wg C n : Nat} {Own Rd : Nat → Loc → Prop} {Lw : Nat → Nat} {val : Nat → Value} {tag : CTag} {d0 V : Nat} {g : Goroutine} {w : World}

/-- the starter's step that turns at most the group's block -/
theorem relAll_main {t : Trace} {D : Nat → WD} {fn : FuncId} {pos : String} {es : Array Event} (h : RelAll Wg n t D) : RelAll Wg n (t ++ MemOp.ofEvents 0 fn pos es) D := fun i hi hs => let ⟨r, hr⟩ := h i hi hs; ⟨r, hr.appOther g_of_ofEvents (by omega)⟩
theorem com_book (A : ApS Sb n (ShN Wg) Own Rd) (G : Geo Wg C Lw) {gs : Array Goroutine} {w w' : World} {t : Trace} {D : Nat → WD} {a a' : Goroutine} {fn : FuncId} {pos : String} {es : Array Event} {st' sm' : Int} (hcom : Com P ty Wg C n Own Rd Lw val n gs w t D d0) (hAs : Aside Wg w w') (hwg' : WgAt ty Wg w' st' sm') (hbk : ∀ e ∈ es, Bk Wg e) :
    Com P ty Wg C n Own Rd Lw val n ((gs.map (woken P a a' w')).setIfInBounds 0 a') w' (t ++ MemOp.ofEvents 0 fn pos es) D (deafBehind d0 es) := by
  obtain ⟨c, hc1, hc2⟩ := hcom.pay
  exact hcom.step0 A.ap (fun i _ => RW.of_wg hAs ⟨_, _, hwg'⟩ G.hCW) (ok0_of_Bk hbk) (norel_of_Bk hbk) ⟨c, (hAs.block C G.hCW).trans hc1, hc2⟩

/-- A STEP OF WAIT's BOOKS: from one place to another. -/
theorem tk_book (A : ApS Sb n (ShN Wg) Own Rd) (G : Geo Wg C Lw) (hn : n < 2147483648) (hp : pend tag = 0) (hb : tag ≠ .blk) (hs : g.status = .running)
    (h : ∀ (w₁ : World) (D : Nat → WD) (st sm : Int), RC ty Wg C w w₁ → WgAt ty Wg w₁ st sm → Go.ConcN.Mode n D tag st sm → Vc n D ≤ V → ∃ (g' : Goroutine) (w' : World) (es : Array Event) (tag' : CTag) (V' : Nat) (st' sm' : Int), stepG P true g w₁ = .go g' w' es ∧ Aside Wg w₁ w' ∧ (∀ e ∈ es, Bk Wg e) ∧
      WgAt ty Wg w' st' sm' ∧ Go.ConcN.Mode n D tag' st' sm' ∧ Vc n D ≤ V' ∧ TK P Sb Post ty Wg C n Own Rd Lw val tag' (deafBehind d0 es) V' () g' w') : TK P Sb Post ty Wg C n Own Rd Lw val tag d0 V () g w := by
  refine tk_go A G hn hp hb hs fun w₁ gs t D st sm r h0 hcom hwg hmode hV hrs => ?_
  obtain ⟨g', w', es, tag', V', st', sm', hgo, hAs, hbk, hwg', hm', hV', hT⟩ := h w₁ D st sm r hwg hmode hV
  have hlt : 0 < gs.size := (Array.getElem?_eq_some_iff.1 h0).1
  exact ⟨g', w', es, hgo, fun e he => shy_bk (hbk e he), hT w' (.refl w') _ _ D st' sm' (by simp [hlt]) (com_book A G hcom hAs hwg' hbk) hwg' hm' hV' (relAll_main hrs)⟩
theorem RC.of_drawn {w : World} {d : Nat} : RC ty Wg C w { w with drawn := d } := .at w d
/-- ON THE WAY between two such steps. -/
theorem clo_tk (A : ApS Sb n (ShN Wg) Own Rd) (G : Geo Wg C Lw) (hn : n < 2147483648) (hp : pend tag = 0) (hb : tag ≠ .blk) : Clo P true (RK ty Wg C) (DK Sb Wg n Own Rd) (fun u => TK P Sb Post ty Wg C n Own Rd Lw val tag d0 V u) := by
  refine ⟨fun {y g w w₁} h r w₂ r₂ => h w₂ (RC.trans r r₂), fun {y g w} hs h => ?_, fun y w => ⟨rfl, by simp, by simp⟩, fun y w => ⟨rfl, by simp, by simp⟩⟩
  refine tk_go A G hn hp hb hs fun w₁ gs t D st sm r h0 hcom hwg hmode hV hrs => ?_
  obtain ⟨g', w', es, _, hgo, ⟨hw, hev, hsy⟩, hT⟩ := h w₁ r
  have hlt : 0 < gs.size := (Array.getElem?_eq_some_iff.1 h0).1
  have hrw : ∀ i, i < n → RW ty Wg C n (Lw (i + 1)) i w₁ w' := fun i _ => by rw [hw]; exact RW.at w₁ _
  have hpay : PayAt C n w' := by rw [hw]; exact hcom.pay
  have hwg' : WgAt ty Wg w' st sm := by rw [hw]; exact hwg
  have hc := hcom.step0 A.ap (a := g) (a' := g') (fn := g.frame.fn) (pos := g.frame.place) hrw (ok0_of_Ev0 hev) (fun e he => (hev e he).2.2.2) hpay
  rw [deafBehind_idle (fun e he => ⟨(hev e he).2.1, (hev e he).2.2.1⟩)] at hc
  exact ⟨g', w', es, hgo, hsy, hT w' (.refl w') _ _ D st sm (by simp [hlt]) hc hwg' hmode hV (relAll_main hrs)⟩
end
end Go.Proofs.Ytkbfcaaihellfaa
