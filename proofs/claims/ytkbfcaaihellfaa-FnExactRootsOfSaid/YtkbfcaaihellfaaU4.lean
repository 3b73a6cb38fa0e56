/- Steps on the way to the law; each part says what it proves. -/
import Derived.Test.YtkbfcaaihellfaaU3
import Derived.Test.YtkbfcaaihellfaaChecked
import Derived.KernelRfl
import Derived.Test.YtkbfcaaihellfaaProg
import Derived.WalkKit

set_option linter.unusedSimpArgs false

/- The model's code on a spliced tape, in a world some of whose rows are emptied: the law. No program in sight. -/
namespace Go.Proofs.Ytkbfcaaihellfaa
open Go.Conc Go.ConcN
set_option linter.unusedVariables false
set_option linter.unusedSectionVars false
set_option linter.unusedSimpArgs false

section
variable {Sb : Nat → Prop} {P : Program} {v w v' w' v1 w1 : World}
theorem farLoad_two {a : Addr} {b : Bool} {x : Value} {l : List Addr} (h : PR Sb v w) (hl : v.farLoad P a b = .ok (x, l)) : ¬ Sb a.block ∧ w.farLoad P a b = .ok (x, l) ∧ ∀ y ∈ l, ¬ Sb y.block := by
  unfold World.farLoad at hl
  split at hl
  · rename_i at_ u hv
    have hs : ¬ Sb a.block := fun hs => by obtain ⟨t, f, e⟩ := h.noV hs hv; cases e
    have hw : w.heap[a.block]? = some (.view at_ u) := (h.same _ hs).symm.trans hv
    refine ⟨hs, ?_⟩
    unfold World.farLoad
    rw [hw]
    simp only
    by_cases hb : Sb at_.block
    · obtain ⟨c, t, f, h1, h2⟩ := h.poi _ hb
      unfold World.viewLoad at hl ⊢
      simp only [bind, Except.bind, throw, throwThe, MonadExceptOf.throw, instMonadExceptOfMonadExceptOf, pure, Except.pure] at hl ⊢
      cases hs : v.seen P at_ u a b with
      | error e => rw [hs] at hl; simp at hl
      | ok r =>
        obtain ⟨r1, r2, r3, r4, hw'⟩ := seen_poi h2 h1 hs
        rw [hs] at hl
        rw [hw']
        obtain ⟨r1', r2', r3', first, like, cells⟩ := r
        simp only at r1 r2 r3 r4
        subst r4
        simp only [List.flatMap_nil, List.map_nil] at hl ⊢
        split at hl
        · cases hl
          rename_i heq
          split at heq
          · cases heq
            exact ⟨rfl, by simp⟩
          · cases heq
        · cases hl
    · have e : w.viewLoad P at_ u a b = v.viewLoad P at_ u a b := by
        unfold World.viewLoad
        rw [seen_same (h.same _ hb)]
      rw [e]
      refine ⟨hl, ?_⟩
      cases hvl : v.viewLoad P at_ u a b with
      | error e => rw [hvl] at hl; cases hl
      | ok y =>
        rw [hvl] at hl
        cases hl
        unfold World.viewLoad at hvl
        simp only [bind, Except.bind, throw, throwThe, MonadExceptOf.throw, instMonadExceptOfMonadExceptOf, pure, Except.pure] at hvl
        split at hvl
        · cases hvl
        · split at hvl
          · cases hvl
            intro y hy
            simp only [List.mem_map] at hy
            obtain ⟨z, _, rfl⟩ := hy
            exact hb
          · cases hvl
  · cases hl
theorem set_self {h : Array Obj} {r : Nat} {o : Obj} (ho : h[r]? = some o) : h.setIfInBounds r o = h := by
  apply Array.ext_getElem?
  intro i
  by_cases e : r = i
  · subst e
    rw [Array.getElem?_setIfInBounds_self_of_lt (Array.getElem?_eq_some_iff.1 ho).1, ho]
  · rw [Array.getElem?_setIfInBounds_ne e]
theorem viewStore_two {at_ a : Addr} {u : TypeId} {b : Bool} {x : Value} {l : List Addr} (h : PR Sb v w) (hl : v.viewStore P at_ u a x b = .ok (v1, l)) : ∃ w1, w.viewStore P at_ u a x b = .ok (w1, l) ∧ (∀ y ∈ l, ¬ Sb y.block) ∧ PR Sb v1 w1 ∧ (v1.drawn = v.drawn ∧ v1.tape = v.tape ∧ w1.drawn = w.drawn ∧ w1.tape = w.tape) := by
  unfold World.viewStore at hl ⊢
  simp only [bind, Except.bind, throw, throwThe, MonadExceptOf.throw, instMonadExceptOfMonadExceptOf, pure, Except.pure] at hl ⊢
  split at hl
  · simp at hl
  rename_i ht
  rw [if_neg ht]
  by_cases hb : Sb at_.block
  · obtain ⟨c, t, f, h1, h2⟩ := h.poi _ hb
    cases hs : v.seen P at_ u a b with
    | error e => rw [hs] at hl; simp at hl
    | ok r =>
      obtain ⟨r1, r2, r3, r4, hw'⟩ := seen_poi h2 h1 hs
      rw [hs] at hl
      rw [hw']
      obtain ⟨r1', r2', r3', first, like, cells⟩ := r
      simp only at r1 r2 r3 r4
      subst r1 r2 r3 r4
      simp only at hl ⊢
      split at hl
      case h_2 => simp at hl
      rename_i bytes hby
      split at hl
      · simp at hl
      rename_i hsz
      rw [if_neg hsz]
      simp only [List.foldlM_nil, pure, Except.pure, List.map_nil] at hl ⊢
      cases hl
      refine ⟨_, rfl, by simp, ?_, rfl, rfl, rfl, rfl⟩
      rw [set_self h1, set_self h2]
      exact h
  · rw [seen_same (h.same _ hb)]
    cases hs : v.seen P at_ u a b with
    | error e => rw [hs] at hl; simp at hl
    | ok r =>
      rw [hs] at hl
      simp only at hl ⊢
      split at hl
      case h_2 => simp at hl
      split at hl
      · simp at hl
      rename_i hsz
      rw [if_neg hsz]
      split at hl
      · simp at hl
      rename_i c' hc'
      cases hl
      refine ⟨_, rfl, fun y hy => ?_, h.setB hb _, rfl, rfl, rfl, rfl⟩
      simp only [List.mem_map] at hy
      obtain ⟨z, _, rfl⟩ := hy
      exact hb
theorem farStore_two {a : Addr} {b : Bool} {x : Value} {l : List Addr} (h : PR Sb v w) (hl : v.farStore P a x b = .ok (v1, l)) : ¬ Sb a.block ∧ ∃ w1, w.farStore P a x b = .ok (w1, l) ∧ (∀ y ∈ l, ¬ Sb y.block) ∧ PR Sb v1 w1 ∧ (v1.drawn = v.drawn ∧ v1.tape = v.tape ∧ w1.drawn = w.drawn ∧ w1.tape = w.tape) := by
  unfold World.farStore at hl
  split at hl
  · rename_i at_ u hv
    have hs : ¬ Sb a.block := fun hs => by obtain ⟨t, f, e⟩ := h.noV hs hv; cases e
    have hw : w.heap[a.block]? = some (.view at_ u) := (h.same _ hs).symm.trans hv
    refine ⟨hs, ?_⟩
    unfold World.farStore
    rw [hw]
    simp only
    cases hvs : v.viewStore P at_ u a x b with
    | error e => rw [hvs] at hl; cases hl
    | ok r =>
      rw [hvs] at hl
      cases hl
      obtain ⟨w1, e, h1⟩ := viewStore_two h hvs
      exact ⟨w1, by rw [e], h1⟩
  · cases hl

/-! ### the law -/
theorem dm_run {α : Type} : ∀ (s : Sem α), Dm P false s → ∀ (w : World) (es : Array Event) (a : α) (w' : World) (es' : Array Event), s.runT P w es ≠ (.ok a w', es') := by
  intro s
  induction s with
  | pure a => exact fun h => by cases h
  | halt h' => intro _ w es a w' es' e; simp [Sem.runT] at e
  | load m a k ih =>
    intro h w es x w' es' e
    unfold Sem.runT at e
    split at e
    · exact ih _ (h _) _ _ _ _ _ e
    · split at e
      · exact ih _ (h _) _ _ _ _ _ e
      · simp at e
  | store m a v k ih =>
    intro h w es x w' es' e
    have key : (match w.cell? a with
        | some _ => if w.frozen? a then (Result.halt (.unsupported (.unsafePointer "a write to bytes that a string shares")) w, es) else k.runT P (w.setCell a v) (es.push ⟨.cell a, true, m == .atomic⟩)
        | none => match w.farStore P a v (m == .atomic) with
          | .ok (w, touched) => k.runT P w (es ++ touched.toArray.map (⟨.cell ·, true, m == .atomic⟩))
          | .error h => (.halt h w, es)) ≠ (.ok x w', es') := by
      intro e
      split at e
      · split at e
        · simp at e
        · exact ih h _ _ _ _ _ e
      · split at e
        · exact ih h _ _ _ _ _ e
        · simp at e
    cases v <;> first | exact key e | (simp [Sem.runT] at e)
  | new o k ih => exact fun h w es x w' es' e => ih _ (h _) _ _ _ _ _ e
  | shape r k ih => exact fun h w es x w' es' e => ih _ (h _) _ _ _ _ _ e
  | freeze a n k ih => exact fun h w es x w' es' e => ih h _ _ _ _ _ e
  | frozen a k ih => exact fun h w es x w' es' e => ih _ (h _) _ _ _ _ _ e
  | getObj r k ih =>
    intro h w es x w' es' e
    unfold Sem.runT at e
    split at e
    · simp at e
    · exact ih _ (h _) _ _ _ _ _ e
    · simp at e
  | setObj r o k ih =>
    intro h w es x w' es' e
    unfold Sem.runT at e
    split at e
    · simp at e
    · exact ih h _ _ _ _ _ e
    · simp at e
  | choose q k ih =>
    intro h w es x w' es' e
    unfold Sem.runT at e
    split at e
    · exact ih _ (h _) _ _ _ _ _ e
    · exact ih _ (h _) _ _ _ _ _ e
  | sys c k ih => exact fun h => h.elim
  | program k ih => exact fun h w es x w' es' e => ih _ h _ _ _ _ _ e
  | mark m k ih => exact fun h w es x w' es' e => ih h.2 _ _ _ _ _ e
theorem nv_run {α : Type} : ∀ (s : Sem α), Nv P s → ∀ (w : World) (es : Array Event) (a : α) (w' : World) (es' : Array Event), s.runT P w es ≠ (.ok a w', es') := by
  intro s
  induction s with
  | pure a => exact fun h => h.elim
  | halt h' => intro _ w es a w' es' e; simp [Sem.runT] at e
  | load m a k ih =>
    intro h w es x w' es' e
    unfold Sem.runT at e
    split at e
    · exact ih _ (h _) _ _ _ _ _ e
    · split at e
      · exact ih _ (h _) _ _ _ _ _ e
      · simp at e
  | store m a v k ih =>
    intro h w es x w' es' e
    have key : (match w.cell? a with
        | some _ => if w.frozen? a then (Result.halt (.unsupported (.unsafePointer "a write to bytes that a string shares")) w, es) else k.runT P (w.setCell a v) (es.push ⟨.cell a, true, m == .atomic⟩)
        | none => match w.farStore P a v (m == .atomic) with
          | .ok (w, touched) => k.runT P w (es ++ touched.toArray.map (⟨.cell ·, true, m == .atomic⟩))
          | .error h => (.halt h w, es)) ≠ (.ok x w', es') := by
      intro e
      split at e
      · split at e
        · simp at e
        · exact ih h _ _ _ _ _ e
      · split at e
        · exact ih h _ _ _ _ _ e
        · simp at e
    cases v <;> first | exact key e | (simp [Sem.runT] at e)
  | new o k ih => exact fun h w es x w' es' e => ih _ (h _) _ _ _ _ _ e
  | shape r k ih => exact fun h w es x w' es' e => ih _ (h _) _ _ _ _ _ e
  | freeze a n k ih => exact fun h w es x w' es' e => ih h _ _ _ _ _ e
  | frozen a k ih => exact fun h w es x w' es' e => ih _ (h _) _ _ _ _ _ e
  | getObj r k ih =>
    intro h w es x w' es' e
    unfold Sem.runT at e
    split at e
    · simp at e
    · exact ih _ (h _) _ _ _ _ _ e
    · simp at e
  | setObj r o k ih =>
    intro h w es x w' es' e
    unfold Sem.runT at e
    split at e
    · simp at e
    · exact ih h _ _ _ _ _ e
    · simp at e
  | choose q k ih =>
    intro h w es x w' es' e
    unfold Sem.runT at e
    split at e
    · exact ih _ (h _) _ _ _ _ _ e
    · exact ih _ (h _) _ _ _ _ _ e
  | sys c k ih => exact fun h w es x w' es' e => ih _ (h _) _ _ _ _ _ e
  | program k ih => exact fun h w es x w' es' e => ih _ h _ _ _ _ _ e
  | mark m k ih => exact fun h w es x w' es' e => ih h _ _ _ _ _ e
theorem farS_draw {a : Addr} {b : Bool} {x : Value} {l : List Addr} (h : v.farStore P a x b = .ok (v1, l)) : v1.drawn = v.drawn ∧ v1.tape = v.tape := by
  have : PR (fun _ => False) v v := ⟨rfl, fun _ _ => rfl, fun _ h => h.elim, rfl, rfl⟩
  obtain ⟨_, w1, _, _, _, h1, h2, _⟩ := farStore_two this h
  exact ⟨h1, h2⟩
theorem freeze_draw (w : World) (a : Addr) (n : Nat) : (w.freeze a n).drawn = w.drawn ∧ (w.freeze a n).tape = w.tape := by unfold World.freeze; split <;> exact ⟨rfl, rfl⟩
/-- the count of draws grows, the tape stands -/
theorem runT_mono {α : Type} {Q : α → Prop} : ∀ (s : Sem α), NoM P Q s → ∀ (w : World) (es : Array Event) (a : α) (w' : World) (es' : Array Event), s.runT P w es = (.ok a w', es') → w.drawn ≤ w'.drawn ∧ w'.tape = w.tape := by
  intro s
  induction s with
  | pure a => intro _ w es x w' es' e; simp [Sem.runT] at e; obtain ⟨⟨_, rfl⟩, _⟩ := e; exact ⟨Nat.le_refl _, rfl⟩
  | halt h' => intro _ w es a w' es' e; simp [Sem.runT] at e
  | load m a k ih =>
    intro h w es x w' es' e
    unfold Sem.runT at e
    split at e
    · exact ih _ (h _) _ _ _ _ _ e
    · split at e
      · exact ih _ (h _) _ _ _ _ _ e
      · simp at e
  | store m a v k ih =>
    intro h w es x w' es' e
    have key : (match w.cell? a with
        | some _ => if w.frozen? a then (Result.halt (.unsupported (.unsafePointer "a write to bytes that a string shares")) w, es) else k.runT P (w.setCell a v) (es.push ⟨.cell a, true, m == .atomic⟩)
        | none => match w.farStore P a v (m == .atomic) with
          | .ok (w, touched) => k.runT P w (es ++ touched.toArray.map (⟨.cell ·, true, m == .atomic⟩))
          | .error h => (.halt h w, es)) = (.ok x w', es') → w.drawn ≤ w'.drawn ∧ w'.tape = w.tape := by
      intro e
      split at e
      · split at e
        · simp at e
        · have := ih h _ _ _ _ _ e
          exact this
      · split at e
        · rename_i hf
          have h1 := farS_draw hf
          have h2 := ih h _ _ _ _ _ e
          exact ⟨by rw [h1.1] at h2; exact h2.1, h2.2.trans h1.2⟩
        · simp at e
    cases v <;> first | exact key e | (simp [Sem.runT] at e)
  | new o k ih =>
    intro h w es x w' es' e
    unfold Sem.runT at e
    have := ih _ (h _) _ _ _ _ _ e
    exact this
  | shape r k ih => exact fun h w es x w' es' e => ih _ (h.1 _) _ _ _ _ _ e
  | freeze a n k ih =>
    intro h w es x w' es' e
    have := ih h _ _ _ _ _ e
    rw [(freeze_draw w a n).1, (freeze_draw w a n).2] at this
    exact this
  | frozen a k ih => exact fun h w es x w' es' e => ih _ (h _) _ _ _ _ _ e
  | getObj r k ih =>
    intro h w es x w' es' e
    unfold Sem.runT at e
    split at e
    · simp at e
    · exact ih _ (h _) _ _ _ _ _ e
    · simp at e
  | setObj r o k ih =>
    intro h w es x w' es' e
    unfold Sem.runT at e
    split at e
    · simp at e
    · have := ih h _ _ _ _ _ e
      exact this
    · simp at e
  | choose q k ih =>
    intro h w es x w' es' e
    unfold Sem.runT at e
    split at e
    · exact ih _ (h _) _ _ _ _ _ e
    · have := ih _ (h _) _ _ _ _ _ e
      exact ⟨by have h1 := this.1; simp only at h1; omega, this.2⟩
  | sys c k ih => exact fun h w es x w' es' e => absurd e (nv_run _ (h.2 _) _ _ _ _ _)
  | program k ih => exact fun h w es x w' es' e => ih _ h _ _ _ _ _ e
  | mark m k ih => exact fun h w es x w' es' e => ih h.2 _ _ _ _ _ e

/-- the tapes say the same for n draws -/
def TapeOk (v w : World) (n : Nat) : Prop := ∀ i, i < n → w.tape (w.drawn + i) = v.tape (v.drawn + i)
/-- how the two runs hang together -/
structure Twin (Sb : Nat → Prop) (v w v' w' : World) : Prop where
  pr : PR Sb v' w'
  drawn : v.drawn ≤ v'.drawn
  drawnW : w'.drawn = w.drawn + (v'.drawn - v.drawn)
  tape : v'.tape = v.tape
  tapeW : w'.tape = w.tape
theorem Twin.step (h : Twin Sb v1 w1 v' w') (hd : v1.drawn = v.drawn) (hdw : w1.drawn = w.drawn) (ht : v1.tape = v.tape) (htw : w1.tape = w.tape) : Twin Sb v w v' w' :=
  ⟨h.pr, by rw [← hd]; exact h.drawn, by rw [← hd, ← hdw]; exact h.drawnW, h.tape.trans ht, h.tapeW.trans htw⟩
theorem TapeOk.step {n : Nat} (h : TapeOk v w n) (hd : v1.drawn = v.drawn) (hdw : w1.drawn = w.drawn) (ht : v1.tape = v.tape) (htw : w1.tape = w.tape) : TapeOk v1 w1 n := fun i hi => by rw [hd, hdw, ht, htw]; exact h i hi
theorem av_push {es : Array Event} {e : Event} {ex : Array Event} : es.push e ++ ex = es ++ (#[e] ++ ex) := by rw [← Array.append_singleton, Array.append_assoc]
theorem run_two {α : Type} {Q : α → Prop} : ∀ (s : Sem α), NoM P Q s → ∀ (v w : World) (es es2 : Array Event) (a : α) (v' : World) (es' : Array Event), PR Sb v w → s.runT P v es = (.ok a v', es') → TapeOk v w (v'.drawn - v.drawn) →
    ∃ w' ex, es' = es ++ ex ∧ (∀ e ∈ ex, Av Sb e) ∧ s.runT P w es2 = (.ok a w', es2 ++ ex) ∧ Twin Sb v w v' w' := by
  intro s
  -- one entry ahead
  have one : ∀ {v w v1 w1 v' : World} {es es2 es' : Array Event} {e : Event} {s : Sem α} {a : α}, Av Sb e → (∃ w' ex, es' = es.push e ++ ex ∧ (∀ e ∈ ex, Av Sb e) ∧ s.runT P w1 (es2.push e) = (.ok a w', es2.push e ++ ex) ∧ Twin Sb v1 w1 v' w') → (∀ {w'}, Twin Sb v1 w1 v' w' → Twin Sb v w v' w') →
      ∃ w' ex, es' = es ++ ex ∧ (∀ e ∈ ex, Av Sb e) ∧ s.runT P w1 (es2.push e) = (.ok a w', es2 ++ ex) ∧ Twin Sb v w v' w' := fun {v w v1 w1 v' es es2 es' e s a} he h ht => by
    obtain ⟨w', ex, h1, h2, h3, h4⟩ := h
    refine ⟨w', #[e] ++ ex, by rw [h1, av_push], fun x hx => ?_, by rw [h3, av_push], ht h4⟩
    rcases Array.mem_append.1 hx with hx | hx
    · simp at hx; subst hx; exact he
    · exact h2 x hx
  have many : ∀ {v w v1 w1 v' : World} {es es2 es' es3 : Array Event} {s : Sem α} {a : α}, (∀ e ∈ es3, Av Sb e) → (∃ w' ex, es' = es ++ es3 ++ ex ∧ (∀ e ∈ ex, Av Sb e) ∧ s.runT P w1 (es2 ++ es3) = (.ok a w', es2 ++ es3 ++ ex) ∧ Twin Sb v1 w1 v' w') → (∀ {w'}, Twin Sb v1 w1 v' w' → Twin Sb v w v' w') →
      ∃ w' ex, es' = es ++ ex ∧ (∀ e ∈ ex, Av Sb e) ∧ s.runT P w1 (es2 ++ es3) = (.ok a w', es2 ++ ex) ∧ Twin Sb v w v' w' := fun {v w v1 w1 v' es es2 es' es3 s a} he h ht => by
    obtain ⟨w', ex, h1, h2, h3, h4⟩ := h
    refine ⟨w', es3 ++ ex, by rw [h1, Array.append_assoc], fun x hx => ?_, by rw [h3, Array.append_assoc], ht h4⟩
    rcases Array.mem_append.1 hx with hx | hx
    · exact he x hx
    · exact h2 x hx
  have avc : ∀ {a : Addr} {x y : Bool}, ¬ Sb a.block → Av Sb ⟨.cell a, x, y⟩ := fun h => ⟨fun b e => by cases e; exact h, fun r e => by cases e⟩
  have avl : ∀ {l : List Addr} {x y : Bool}, (∀ a ∈ l, ¬ Sb a.block) → ∀ e ∈ l.toArray.map (fun a => (⟨.cell a, x, y⟩ : Event)), Av Sb e := fun h e he => by
    obtain ⟨a, ha, rfl⟩ := Array.mem_map.1 he
    exact avc (h a (by simpa using ha))
  induction s with
  | pure a =>
    intro _ v w es es2 x v' es' hp e _
    simp [Sem.runT] at e
    obtain ⟨⟨rfl, rfl⟩, rfl⟩ := e
    exact ⟨w, #[], by simp, by simp, by simp [Sem.runT], hp, Nat.le_refl _, by simp, rfl, rfl⟩
  | halt h' => intro _ v w es es2 a v' es' _ e; simp [Sem.runT] at e
  | load m a k ih =>
    intro h v w es es2 x v' es' hp e ht
    unfold Sem.runT at e ⊢
    cases hc : v.cell? a with
    | some y =>
      obtain ⟨hs, hw⟩ := hp.cell_some hc
      rw [hc] at e
      rw [hw]
      exact one (avc hs) (ih y (h y) v w _ _ _ _ _ hp e ht) id
    | none =>
      rw [hc] at e
      simp only at e
      split at e
      · rename_i y l hf
        obtain ⟨hs, hf', hl⟩ := farLoad_two hp hf
        rw [hp.cell hs, hc, hf']
        exact many (avl hl) (ih y (h y) v w _ _ _ _ _ hp e ht) id
      · simp at e
  | store m a y k ih =>
    intro h v w es es2 x v' es' hp e ht
    have key : (match v.cell? a with
        | some _ => if v.frozen? a then (Result.halt (.unsupported (.unsafePointer "a write to bytes that a string shares")) v, es) else k.runT P (v.setCell a y) (es.push ⟨.cell a, true, m == .atomic⟩)
        | none => match v.farStore P a y (m == .atomic) with
          | .ok (v, touched) => k.runT P v (es ++ touched.toArray.map (⟨.cell ·, true, m == .atomic⟩))
          | .error h => (.halt h v, es)) = (.ok x v', es') → ∃ w' ex, es' = es ++ ex ∧ (∀ e ∈ ex, Av Sb e) ∧ (match w.cell? a with
        | some _ => if w.frozen? a then (Result.halt (.unsupported (.unsafePointer "a write to bytes that a string shares")) w, es2) else k.runT P (w.setCell a y) (es2.push ⟨.cell a, true, m == .atomic⟩)
        | none => match w.farStore P a y (m == .atomic) with
          | .ok (w, touched) => k.runT P w (es2 ++ touched.toArray.map (⟨.cell ·, true, m == .atomic⟩))
          | .error h => (.halt h w, es2)) = (.ok x w', es2 ++ ex) ∧ Twin Sb v w v' w' := by
      intro e
      cases hc : v.cell? a with
      | some z =>
        obtain ⟨hs, hw⟩ := hp.cell_some hc
        rw [hc] at e
        rw [hw]
        simp only at e ⊢
        rw [hp.frozen a]
        split at e
        · simp at e
        · rename_i hf
          rw [if_neg hf]
          exact one (avc hs) (ih h (v.setCell a y) (w.setCell a y) _ _ _ _ _ (hp.set hs y) e ht) fun t => t.step rfl rfl rfl rfl
      | none =>
        rw [hc] at e
        simp only at e
        split at e
        · rename_i v1 l hf
          obtain ⟨hs, w1, hf', hl, hp1, d1, t1, d2, t2⟩ := farStore_two hp hf
          rw [hp.cell hs, hc]
          simp only
          rw [hf']
          exact many (avl hl) (ih h v1 w1 _ _ _ _ _ hp1 e (by rw [d1]; exact ht.step d1 d2 t1 t2)) fun t => t.step d1 d2 t1 t2
        · simp at e
    cases y <;> first | exact key e | (simp [Sem.runT] at e)
  | new o k ih =>
    intro h v w es es2 x v' es' hp e ht
    unfold Sem.runT at e ⊢
    rw [← hp.size]
    obtain ⟨w', ex, h1, h2, h3, h4⟩ := ih _ (h _) { v with heap := v.heap.push o } { w with heap := w.heap.push o } es es2 _ _ _ (hp.push hp.lt o) e ht
    exact ⟨w', ex, h1, h2, h3, h4.step rfl rfl rfl rfl⟩
  | shape r k ih =>
    intro h v w es es2 x v' es' hp e ht
    unfold Sem.runT at e ⊢
    by_cases hs : Sb r
    · obtain ⟨c, t, f, h1, h2⟩ := hp.poi r hs
      have e1 : v.shape? r = some (t, 0) := by simp [World.shape?, h2]
      have e2 : w.shape? r = some (t, c.size) := by simp [World.shape?, h1]
      rw [e1] at e
      rw [e2]
      rcases h.2 t c.size with hd | hd
      · rw [← hd]
        exact ih _ (h.1 _) v w _ _ _ _ _ hp e ht
      · exact absurd e (dm_run _ hd _ _ _ _ _)
    · have : w.shape? r = v.shape? r := by simp only [World.shape?, hp.same r hs]
      rw [this]
      exact ih _ (h.1 _) v w _ _ _ _ _ hp e ht
  | freeze a n k ih =>
    intro h v w es es2 x v' es' hp e ht
    unfold Sem.runT at e ⊢
    have a1 := freeze_draw v a n
    have a2 := freeze_draw w a n
    obtain ⟨w', ex, h1, h2, h3, h4⟩ := ih h (v.freeze a n) (w.freeze a n) es es2 _ _ _ (hp.freezeA a n) e (by rw [a1.1]; exact ht.step a1.1 a2.1 a1.2 a2.2)
    exact ⟨w', ex, h1, h2, h3, h4.step a1.1 a2.1 a1.2 a2.2⟩
  | frozen a k ih =>
    intro h v w es es2 x v' es' hp e ht
    unfold Sem.runT at e ⊢
    rw [hp.frozen a]
    exact ih _ (h _) v w _ _ _ _ _ hp e ht
  | getObj r k ih =>
    intro h v w es es2 x v' es' hp e ht
    unfold Sem.runT at e ⊢
    split at e
    · simp at e
    · rename_i o hno ho
      have hs : ¬ Sb r := fun hs => by obtain ⟨t, f, rfl⟩ := hp.noV hs ho; exact hno _ _ _ rfl
      rw [← hp.same r hs, ho]
      have hav : Av Sb ⟨.obj r, false, o.isChan⟩ := ⟨fun b e => (by cases e), fun r' e => by cases e; exact hs⟩
      have := one hav (ih _ (h _) v w _ (es2.push ⟨.obj r, false, o.isChan⟩) _ _ _ hp e ht) id
      cases o <;> first | exact absurd rfl (hno _ _ _) | exact this
    · simp at e
  | setObj r o k ih =>
    intro h v w es es2 x v' es' hp e ht
    unfold Sem.runT at e ⊢
    split at e
    · simp at e
    · rename_i o' hno ho
      have hs : ¬ Sb r := fun hs => by obtain ⟨t, f, rfl⟩ := hp.noV hs ho; exact hno _ _ _ rfl
      rw [← hp.same r hs, ho]
      have hav : Av Sb ⟨.obj r, true, o.isChan⟩ := ⟨fun b e => (by cases e), fun r' e => by cases e; exact hs⟩
      have := one hav (ih h { v with heap := v.heap.setIfInBounds r o } { w with heap := w.heap.setIfInBounds r o } _ (es2.push ⟨.obj r, true, o.isChan⟩) _ _ _ (hp.setB hs o) e ht) fun t => t.step (v := v) (w := w) rfl rfl rfl rfl
      cases o' <;> first | exact absurd rfl (hno _ _ _) | exact this
    · simp at e
  | choose q k ih =>
    intro h v w es es2 x v' es' hp e ht
    unfold Sem.runT at e ⊢
    split at e
    · rename_i hq
      rw [if_pos hq]
      exact ih _ (h _) v w _ _ _ _ _ hp e ht
    · rename_i hq
      rw [if_neg hq]
      have hm := runT_mono _ (h _) _ _ _ _ _ e
      have hlt : v.drawn + 1 ≤ v'.drawn := hm.1
      have h0 := ht 0 (by omega)
      simp only [Nat.add_zero] at h0
      rw [h0]
      obtain ⟨w', ex, h1, h2, h3, h4⟩ := ih _ (h _) { v with drawn := v.drawn + 1 } { w with drawn := w.drawn + 1 } es es2 _ _ _ (hp.draw _ _) e (fun i hi => by
        have hi' : i < v'.drawn - (v.drawn + 1) := hi
        have := ht (i + 1) (by omega)
        show w.tape (w.drawn + 1 + i) = v.tape (v.drawn + 1 + i)
        rw [show w.drawn + 1 + i = w.drawn + (i + 1) by omega, show v.drawn + 1 + i = v.drawn + (i + 1) by omega]
        exact this)
      refine ⟨w', ex, h1, h2, h3, h4.pr, by omega, ?_, h4.tape, h4.tapeW⟩
      have := h4.drawnW
      simp only at this
      omega
  | sys c k ih => exact fun h v w es es2 x v' es' hp e ht => absurd e (nv_run _ (h.2 _) _ _ _ _ _)
  | program k ih =>
    intro h v w es es2 x v' es' hp e ht
    unfold Sem.runT at e ⊢
    exact ih _ h v w _ _ _ _ _ hp e ht
  | mark m k ih =>
    intro h v w es es2 x v' es' hp e ht
    unfold Sem.runT at e ⊢
    exact one ⟨fun a e => (by cases e), fun r e => (by cases e)⟩ (ih h.2 v w _ _ _ _ _ hp e ht) id
end
end Go.Proofs.Ytkbfcaaihellfaa

/- Plain code: each step of a goroutine that runs it, whoever called, whichever goroutine. No program in sight. -/
namespace Go.Proofs.Ytkbfcaaihellfaa
open Go.Conc Go.ConcN
set_option linter.unusedVariables false
set_option linter.unusedSectionVars false
set_option linter.unusedSimpArgs false

section
variable {P : Program} {F : FuncId → Bool}
def okCode (P : Program) (F : FuncId → Bool) : Code → Bool
  | .skip | .exit _ | .ret | .label _ | .goto _ => true
  | .region _ ops _ => ops.all fun o => okOp P F o.op
  | .seq a b | .cond _ a b => okCode P F a && okCode P F b
  | .block _ a | .loop a | .scope a => okCode P F a
  | _ => false
def okItem (P : Program) (F : FuncId → Bool) : Item → Bool
  | .code c | .inScope c | .inLoop c => okCode P F c
  | .inBlock _ => true
  | .inRegion ops _ => ops.all fun o => okOp P F o.op
  | _ => false
def okRes (r : ResultVar) : Bool := match r with | .tmp _ => true | _ => false
def okFn (P : Program) (F : FuncId → Bool) (f : FuncId) : Bool := match P.funcs[f]? with
  | some fn => !(fn.name == "runtime.NumGoroutine") && (match fn.body with | some c => okCode P F c | none => false) && fn.results.all okRes && (P.inits.idxOf? f).isNone
  | none => false
/-- Plain functions call plain functions; no variable of a package waits. -/
structure Plain (P : Program) (F : FuncId → Bool) : Prop where
  fn : ∀ f, F f = true → okFn P F f = true
  ahead : P.follows .staticDataAhead = true
  none : ∀ g, P.stepOf g = none
theorem Plain.info (h : Plain P F) {f : FuncId} (hf : F f = true) : ∃ fn c, P.funcs[f]? = some fn ∧ (fn.name == "runtime.NumGoroutine") = false ∧ fn.body = some c ∧ okCode P F c = true ∧ fn.results.all okRes = true ∧ P.inits.idxOf? f = Option.none := by
  have := h.fn f hf
  unfold okFn at this
  split at this
  · rename_i fn hfn
    simp only [Bool.and_eq_true] at this
    obtain ⟨⟨⟨h1, h2⟩, h3⟩, h4⟩ := this
    split at h2
    · rename_i c hc
      exact ⟨fn, c, hfn, by simpa using h1, hc, h2, h3, by simpa using h4⟩
    · cases h2
  · cases this
theorem Plain.callable (h : Plain P F) : Callable P F := ⟨fun f hf => let ⟨fn, c, h1, h2, h3, _⟩ := h.info hf; ⟨fn, h1, h2, by rw [h3]; rfl⟩⟩

/-- A frame that runs plain code. -/
structure CleanF (P : Program) (F : FuncId → Bool) (fr : Frame) : Prop where
  fn : F fr.fn = true
  defers : fr.defers = []
  kind : fr.kind = .normal
  round : fr.roundOf = Option.none
  todo : ∀ i ∈ fr.todo, okItem P F i = true
  mode : fr.mode = .run ∨ fr.mode = .returning
theorem CleanF.at {fr : Frame} (h : CleanF P F fr) {t : Array Value} {k : List Item} (hk : ∀ i ∈ k, okItem P F i = true) : CleanF P F { fr with tmps := t, todo := k } := ⟨h.fn, h.defers, h.kind, h.round, hk, h.mode⟩
theorem CleanF.finish {fr : Frame} (h : CleanF P F fr) (v : Value) : CleanF P F (fr.finish v) ∧ (fr.finish v).mode = fr.mode := by
  have ht := h.todo
  unfold Frame.finish
  split
  · rename_i ops i rest k e
    rw [e] at ht
    refine ⟨⟨h.fn, h.defers, h.kind, h.round, fun x hx => ?_, h.mode⟩, rfl⟩
    rcases List.mem_cons.1 hx with rfl | hx
    · exact ht (.inRegion ops (i :: rest)) (by simp)
    · exact ht x (by simp [hx])
  · rename_i e; rw [e] at ht; have := ht _ (List.mem_cons_self ..); cases this
  · rename_i e; rw [e] at ht; have := ht _ (List.mem_cons_self ..); cases this
  · rename_i e; rw [e] at ht; have := ht _ (List.mem_cons_self ..); cases this
  · rename_i e; rw [e] at ht; have := ht _ (List.mem_cons_self ..); cases this
  · exact ⟨h, rfl⟩
theorem CleanF.enter (h : Plain P F) {f : FuncId} (hf : F f = true) (args : Array Value) : CleanF P F (Frame.enter P f args .normal) ∧ (Frame.enter P f args .normal).mode = .run := by
  obtain ⟨fn, c, h1, _, h3, h4, _⟩ := h.info hf
  refine ⟨⟨hf, rfl, rfl, rfl, fun i hi => ?_, .inl rfl⟩, rfl⟩
  simp only [Frame.enter, h1, Option.bind_some, h3, Option.getD_some, List.mem_singleton] at hi
  subst hi
  exact h4
theorem exitTo_ok {id : Nat} : ∀ {k k' : List Item}, (∀ i ∈ k, okItem P F i = true) → exitTo id k = some k' → ∀ i ∈ k', okItem P F i = true
  | [], k', h, e => by cases e
  | x :: k, k', h, e => by
    have hk : ∀ i ∈ k, okItem P F i = true := fun i hi => h i (by simp [hi])
    unfold exitTo at e
    split at e
    · rename_i h1 _ heq
      cases heq
      split at e
      · cases e; exact hk
      · exact exitTo_ok hk e
    · rename_i heq
      cases heq
      exact exitTo_ok hk e
    · rename_i heq; cases heq
theorem findLabel_ok {l : Nat} : ∀ {c c' : Code}, okCode P F c = true → findLabel c l = some c' → okCode P F c' = true := by
  intro c
  induction c with
  | seq a b iha ihb =>
    intro c' h e
    simp only [okCode, Bool.and_eq_true] at h
    unfold findLabel at e
    split at e
    · rename_i r hr
      cases e
      simp only [okCode, Bool.and_eq_true]
      exact ⟨iha h.1 hr, h.2⟩
    · exact ihb h.2 e
  | label l' =>
    intro c' h e
    unfold findLabel at e
    split at e
    · cases e; rfl
    · cases e
  | _ => intro c' h e; unfold findLabel at e; cases e
theorem gotoIn_ok {l : Nat} : ∀ {k k' : List Item}, (∀ i ∈ k, okItem P F i = true) → gotoIn l k = some k' → ∀ i ∈ k', okItem P F i = true
  | [], k', h, e => by cases e
  | x :: k, k', h, e => by
    have hk : ∀ i ∈ k, okItem P F i = true := fun i hi => h i (by simp [hi])
    unfold gotoIn at e
    split at e
    · rename_i b k1 heq
      cases heq
      have hb : okCode P F b = true := h (.inScope b) (by simp)
      split at e
      · rename_i r hr
        cases e
        intro i hi
        rcases List.mem_cons.1 hi with rfl | hi
        · exact findLabel_ok hb hr
        · rcases List.mem_cons.1 hi with rfl | hi
          · exact hb
          · exact hk i hi
      · exact gotoIn_ok hk e
    · rename_i heq
      cases heq
      exact gotoIn_ok hk e
    · rename_i heq; cases heq

/-- THE SAME STEP on another tape that says the same, in a world some of whose rows are emptied: it touches none of them. -/
def TwinS (P : Program) (fr : Frame) (l : List Frame) (w : World) (fr' : Frame) (l' : List Frame) (w' : World) (es : Array Event) : Prop :=
  w.drawn ≤ w'.drawn ∧ w'.tape = w.tape ∧ ∀ (Sb : Nat → Prop) (w₂ : World), PR Sb w w₂ → TapeOk w w₂ (w'.drawn - w.drawn) → ∃ w₂', (∀ main cs, stepG P main (G fr (l ++ cs)) w₂ = .go (G fr' (l' ++ cs)) w₂' es) ∧ Twin Sb w w₂ w' w₂' ∧ ∀ e ∈ es, Av Sb e
/-- What a step of plain code is, whoever called (cs), whichever goroutine (main): it goes on in plain code · it panics · it ends all. -/
inductive StepC (P : Program) (F : FuncId → Bool) (fr : Frame) (l : List Frame) (w : World) : Prop
  | go (fr' : Frame) (l' : List Frame) (w' : World) (es : Array Event) : CleanF P F fr' → (∀ x ∈ l', CleanF P F x ∧ x.mode = .run) → w.heap.size ≤ w'.heap.size → (∀ e ∈ es, EvP w'.heap.size e) →
      (∀ main cs, stepG P main (G fr (l ++ cs)) w = .go (G fr' (l' ++ cs)) w' es) → TwinS P fr l w fr' l' w' es → StepC P F fr l w
  | trap (fr' : Frame) (w' : World) (es : Array Event) : (∃ ch, fr'.mode = .panicking ch) → fr'.defers = [] → (∀ main cs, stepG P main (G fr (l ++ cs)) w = .go (G fr' (l ++ cs)) w' es) → StepC P F fr l w
  | ended : (∀ main cs, ∃ o w' es, stepG P main (G fr (l ++ cs)) w = .ended o w' es) → StepC P F fr l w

theorem apply_c (hP : Plain P F) {fr : Frame} {l : List Frame} (hf : CleanF P F fr) (hm : fr.mode = .run) (hl : ∀ x ∈ l, CleanF P F x ∧ x.mode = .run) {ops : Array Oper} {i : Nat} {rest : List Nat} {k : List Item} (ht : fr.todo = .inRegion ops (i :: rest) :: k) {s : Sem Next} (hs : NoM P (OkNext F) s) (w : World)
    (h : ∀ w main cs, stepG P main (G fr (l ++ cs)) w = stepG.apply P true fr (l ++ cs) none s w) : StepC P F fr l w := by
  have htd := ht
  obtain ⟨h1, h2, h3⟩ := runT_nom s hs w #[]
  have hk : (fr.kind == CallKind.early) = false := by rw [hf.kind]; rfl
  have h3' : ∀ e ∈ s.events P w #[], EvP (resw (s.run P w)).heap.size e := fun e he => by
    have := h3 e he
    rw [Sem.runT_eq] at this
    exact this.resolve_left (by simp)
  rw [Sem.runT_eq] at h1 h2
  simp only at h1 h2
  generalize hr : s.run P w = r at h1 h2 h3'
  cases r with
  | ok a w' =>
    have hev : ∀ e ∈ seen P fr.fn (s.events P w #[]), EvP w'.heap.size e := fun e he => h3' e (mem_seen he)
    have hrT : s.runT P w #[] = (.ok a w', s.events P w #[]) := by rw [Sem.runT_eq, hr]
    have hmono := runT_mono s hs _ _ _ _ _ hrT
    have htw : ∀ (Sb : Nat → Prop) (w₂ : World), PR Sb w w₂ → TapeOk w w₂ (w'.drawn - w.drawn) → ∃ w₂', s.run P w₂ = .ok a w₂' ∧ s.events P w₂ #[] = s.events P w #[] ∧ Twin Sb w w₂ w' w₂' ∧ ∀ e ∈ seen P fr.fn (s.events P w #[]), Av Sb e := fun Sb w₂ hp ht => by
      obtain ⟨w₂', ex, e1, e2, e3, e4⟩ := run_two s hs w w₂ #[] #[] a w' _ hp hrT ht
      rw [Sem.runT_eq] at e3
      simp only [Array.empty_append, Prod.mk.injEq] at e1 e3
      exact ⟨w₂', e3.1, e3.2.trans e1.symm, e4, fun e he => e2 e (by rw [← e1]; exact mem_seen he)⟩
    rcases h1 with ⟨v, rfl⟩ | rfl | ⟨f, args, rfl, hF⟩
    · refine .go (fr.finish v) l w' _ (hf.finish v).1 hl h2 hev (fun main cs => ?_) ⟨hmono.1, hmono.2, fun Sb w₂ hp ht => ?_⟩
      · rw [h]; simp [stepG.apply, hr, hk, ht, G, GStep.after]
      · obtain ⟨w₂', e1, e2, e3, e4⟩ := htw Sb w₂ hp ht
        refine ⟨w₂', fun main cs => ?_, e3, e4⟩
        rw [h]; simp [stepG.apply, e1, e2, hk, htd, G, GStep.after]
    · refine .go (fr.finish undef) l w' _ (hf.finish undef).1 hl h2 hev (fun main cs => ?_) ⟨hmono.1, hmono.2, fun Sb w₂ hp ht => ?_⟩
      · rw [h]; simp [stepG.apply, hr, hk, ht, G, GStep.after]
      · obtain ⟨w₂', e1, e2, e3, e4⟩ := htw Sb w₂ hp ht
        refine ⟨w₂', fun main cs => ?_, e3, e4⟩
        rw [h]; simp [stepG.apply, e1, e2, hk, htd, G, GStep.after]
    · refine .go (Frame.enter P f args .normal) (fr :: l) w' _ (CleanF.enter hP hF args).1 (fun x hx => ?_) h2 hev (fun main cs => ?_) ⟨hmono.1, hmono.2, fun Sb w₂ hp ht => ?_⟩
      · rcases List.mem_cons.1 hx with rfl | hx
        · exact ⟨hf, hm⟩
        · exact hl x hx
      · rw [h]; simp [stepG.apply, hr, hk, ht, G, GStep.after]
      · obtain ⟨w₂', e1, e2, e3, e4⟩ := htw Sb w₂ hp ht
        refine ⟨w₂', fun main cs => ?_, e3, e4⟩
        rw [h]; simp [stepG.apply, e1, e2, hk, htd, G, GStep.after]
  | halt h' w' =>
    cases h' <;> simp only [resOk, HaltOk] at h1
    case panic v =>
      refine .trap (fr.raise [{ v, recovered := false }]) w' (seen P fr.fn (s.events P w #[])) ?_ ?_ (fun main cs => ?_)
      · unfold Frame.raise; rw [hm]; exact ⟨_, rfl⟩
      · unfold Frame.raise; rw [hm]; exact hf.defers
      · rw [h]; simp [stepG.apply, hr, hk, ht, G, GStep.after]
    case stuck why =>
      refine .ended fun main cs => ?_
      rw [h]; simp [stepG.apply, hr, hk, ht, G, GStep.after]
    case unsupported u =>
      refine .ended fun main cs => ?_
      rw [h]
      cases u with
      | initOrder g => simp [stepG.apply, hr, hk, ht, G, GStep.after, early, hP.ahead, hP.none g]
      | _ => simp [stepG.apply, hr, hk, ht, G, GStep.after]
theorem results_tmpsA {fn : Func} {tmps : Array Value} (h : fn.results.all okRes = true) (P : Program) : ∃ v, ∀ w, (results fn tmps).run P w = .ok v w ∧ (results fn tmps).events P w #[] = #[] := by
  have key : ∀ (l : List ResultVar), (∀ r ∈ l, okRes r = true) → ∃ vs, (l.mapM (fun r => (match r with | .tmp t => pure (tmps.getD t undef) | .cell a t => do loadVar t (← asAddr (tmps.getD a undef)) : Sem Value))) = pure vs := by
    intro l
    induction l with
    | nil => exact fun _ => ⟨[], rfl⟩
    | cons r l ih =>
      intro hl
      obtain ⟨vs, hvs⟩ := ih fun r hr => hl r (by simp [hr])
      have hr := hl r (by simp)
      cases r with
      | tmp t => exact ⟨tmps.getD t undef :: vs, by rw [List.mapM_cons, hvs]; rfl⟩
      | cell a t => cases hr
  obtain ⟨vs, hvs⟩ := key fn.results.toList (fun r hr => by
    have := Array.all_eq_true_iff_forall_mem.1 h r (by simpa using hr)
    exact this)
  have : results fn tmps = pure (if h : vs.toArray.size = 1 then vs.toArray[0] else .tuple vs.toArray) := by
    unfold results
    rw [Array.mapM_eq_mapM_toList]
    erw [hvs]
    rfl
  rw [this]
  exact ⟨_, fun w => ⟨rfl, rfl⟩⟩
theorem results_tmps {fn : Func} {tmps : Array Value} (h : fn.results.all okRes = true) (P : Program) (w : World) : ∃ v, (results fn tmps).run P w = .ok v w ∧ (results fn tmps).events P w #[] = #[] := let ⟨v, hv⟩ := results_tmpsA h P; ⟨v, hv w⟩
end
end Go.Proofs.Ytkbfcaaihellfaa

/- Plain code: each step. No program in sight. -/
namespace Go.Proofs.Ytkbfcaaihellfaa
open Go.Conc Go.ConcN
set_option linter.unusedVariables false
set_option linter.unusedSectionVars false
set_option linter.unusedSimpArgs false

section
variable {P : Program} {F : FuncId → Bool}
theorem ctl_c {fr fr' : Frame} {l : List Frame} {w : World} (hf : CleanF P F fr') (hl : ∀ x ∈ l, CleanF P F x ∧ x.mode = .run) (h : ∀ w main cs, stepG P main (G fr (l ++ cs)) w = .go (G fr' (l ++ cs)) w #[]) : StepC P F fr l w :=
  .go fr' l w #[] hf hl (Nat.le_refl _) (by simp) (h w) ⟨Nat.le_refl _, rfl, fun Sb w₂ hp ht => ⟨w₂, h w₂, ⟨hp, Nat.le_refl _, by simp, rfl, rfl⟩, by simp⟩⟩
theorem clean_step (hP : Plain P F) {fr : Frame} {l : List Frame} (hf : CleanF P F fr) (hl : ∀ x ∈ l, CleanF P F x ∧ x.mode = .run) (w : World) (hpop : fr.mode = .run ∨ l ≠ []) : StepC P F fr l w := by
  rcases hf.mode with hm | hm
  · have ht := hf.todo
    obtain ⟨fn, tmps, todo, defers, mode, kind, ro⟩ := fr
    obtain ⟨h1, rfl, rfl, rfl, _, _⟩ := hf
    change mode = .run at hm
    change ∀ i ∈ todo, okItem P F i = true at ht
    subst hm
    have cl : ∀ {k : List Item} {m : FrameMode}, (∀ i ∈ k, okItem P F i = true) → (m = .run ∨ m = .returning) → CleanF P F { fn := fn, tmps := tmps, todo := k, defers := [], mode := m, kind := .normal, roundOf := none } := fun hk hm => ⟨h1, rfl, rfl, rfl, hk, hm⟩
    cases todo with
    | nil => exact ctl_c (cl (k := []) (by simp) (.inr rfl)) hl (fun w main cs => by simp [stepG, stepG.exec, G])
    | cons x k =>
      have hk : ∀ i ∈ k, okItem P F i = true := fun i hi => ht i (by simp [hi])
      have hx := ht x (by simp)
      have two : ∀ {a b : Item}, okItem P F a = true → okItem P F b = true → ∀ i ∈ a :: b :: k, okItem P F i = true := fun ha hb i hi => by
        rcases List.mem_cons.1 hi with rfl | hi
        · exact ha
        · rcases List.mem_cons.1 hi with rfl | hi
          · exact hb
          · exact hk i hi
      have one : ∀ {a : Item}, okItem P F a = true → ∀ i ∈ a :: k, okItem P F i = true := fun ha i hi => by
        rcases List.mem_cons.1 hi with rfl | hi
        · exact ha
        · exact hk i hi
      cases x with
      | inBlock id => exact ctl_c (cl hk (.inl rfl)) hl (fun w main cs => by simp [stepG, stepG.exec, G])
      | inScope c => exact ctl_c (cl hk (.inl rfl)) hl (fun w main cs => by simp [stepG, stepG.exec, G])
      | inLoop c => exact ctl_c (cl (two (a := .code c) (b := .inLoop c) hx hx) (.inl rfl)) hl (fun w main cs => by simp [stepG, stepG.exec, G])
      | inRegion ops li =>
        cases li with
        | nil => exact ctl_c (cl hk (.inl rfl)) hl (fun w main cs => by simp [stepG, stepG.exec, G])
        | cons i rest =>
          by_cases hw : ((ops[i]?).map (Region.wanted · (yielded ops tmps))).getD false = true
          · cases ho : ops[i]? with
            | none => rw [ho] at hw; simp at hw
            | some o =>
              have hop : okOp P F o.op = true := Array.all_eq_true_iff_forall_mem.1 hx o (Array.mem_of_getElem? ho)
              refine apply_c hP (cl ht (.inl rfl)) rfl hl rfl (nom_exec hP.callable (ρ := Frame.eval { fn := fn, tmps := tmps, todo := .inRegion ops (i :: rest) :: k, defers := [], mode := .run, kind := .normal, roundOf := none }) (fun _ => rfl) hop) w fun w main cs => ?_
              have hw' : Region.wanted o (yielded ops tmps) = true := by rw [ho] at hw; simpa using hw
              simp [stepG, stepG.exec, stepG.oper, G, Frame.oper?, ho, hw']
          · refine ctl_c (CleanF.finish (cl ht (.inl rfl)) undef).1 hl (fun w main cs => ?_)
            simp only [Bool.not_eq_true] at hw
            simp [stepG, stepG.exec, G, hw]
      | code c =>
        cases c with
        | skip => exact ctl_c (cl hk (.inl rfl)) hl (fun w main cs => by simp [stepG, stepG.exec, G])
        | label _ => exact ctl_c (cl hk (.inl rfl)) hl (fun w main cs => by simp [stepG, stepG.exec, G])
        | ret => exact ctl_c (cl ht (.inr rfl)) hl (fun w main cs => by simp [stepG, stepG.exec, G])
        | seq a b =>
          simp only [okItem, okCode, Bool.and_eq_true] at hx
          exact ctl_c (cl (two (a := .code a) (b := .code b) hx.1 hx.2) (.inl rfl)) hl (fun w main cs => by simp [stepG, stepG.exec, G])
        | block id a => exact ctl_c (cl (two (a := .code a) (b := .inBlock id) hx rfl) (.inl rfl)) hl (fun w main cs => by simp [stepG, stepG.exec, G])
        | loop a => exact ctl_c (cl (two (a := .code a) (b := .inLoop a) hx hx) (.inl rfl)) hl (fun w main cs => by simp [stepG, stepG.exec, G])
        | scope a => exact ctl_c (cl (two (a := .code a) (b := .inScope a) hx hx) (.inl rfl)) hl (fun w main cs => by simp [stepG, stepG.exec, G])
        | cond c a b =>
          simp only [okItem, okCode, Bool.and_eq_true] at hx
          generalize hv : Frame.eval { fn := fn, tmps := tmps, todo := .code (.cond c a b) :: k, defers := [], mode := .run, kind := .normal, roundOf := none } c = v
          by_cases hb : ∃ t, v = .bool t
          · obtain ⟨t, rfl⟩ := hb
            exact ctl_c (cl (one (a := .code (if t then a else b)) (by cases t; exact hx.2; exact hx.1)) (.inl rfl)) hl (fun w main cs => by simp [stepG, stepG.exec, G, hv])
          · refine .ended fun main cs => ?_
            cases v <;> first | exact absurd ⟨_, rfl⟩ hb | simp [stepG, stepG.exec, G, hv]
        | exit id =>
          cases he : exitTo id k with
          | some k' => exact ctl_c (cl (exitTo_ok hk he) (.inl rfl)) hl (fun w main cs => by simp [stepG, stepG.exec, G, he])
          | none => exact .ended fun main cs => by simp [stepG, stepG.exec, G, he]
        | goto id =>
          cases he : gotoIn id k with
          | some k' => exact ctl_c (cl (gotoIn_ok hk he) (.inl rfl)) hl (fun w main cs => by simp [stepG, stepG.exec, G, he])
          | none => exact .ended fun main cs => by simp [stepG, stepG.exec, G, he]
        | region id ops dr =>
          cases dr with
          | false => exact ctl_c (cl (one (a := .inRegion ops (List.range ops.size)) hx) (.inl rfl)) hl (fun w main cs => by simp [stepG, stepG.exec, G])
          | true =>
            refine .go { fn := fn, tmps := tmps, todo := .inRegion ops (Region.schedule (P.follows .mixedOrders) ops (w.tape w.drawn (.order fn id))) :: k, defers := [], mode := .run, kind := .normal, roundOf := none } l { w with drawn := w.drawn + 1 } #[] (cl (one (a := .inRegion ops _) hx) (.inl rfl)) hl (Nat.le_refl _) (by simp) (fun main cs => ?_) ⟨Nat.le_succ _, rfl, fun Sb w₂ hp ht => ⟨{ w₂ with drawn := w₂.drawn + 1 }, fun main cs => ?_, ⟨hp.draw _ _, Nat.le_succ _, by simp, rfl, rfl⟩, by simp⟩⟩
            · simp [stepG, stepG.exec, G, choose, Sem.run, Question.forced, Question.cut]
            · have h0 := ht 0 (by simp)
              simp only [Nat.add_zero] at h0
              simp [stepG, stepG.exec, G, choose, Sem.run, Question.forced, Question.cut, h0]
        | rangeFunc => cases hx
        | refuse => cases hx
      | _ => cases hx
  · cases l with
    | nil => rcases hpop with h | h
             · rw [hm] at h; cases h
             · exact absurd rfl h
    | cons c l' =>
      obtain ⟨fn, cd, h1, _, _, _, h5, _⟩ := hP.info hf.fn
      obtain ⟨v, hv⟩ := results_tmpsA (tmps := fr.tmps) h5 P
      have hc := hl c (by simp)
      have hst : ∀ w main cs, stepG P main (G fr (c :: l' ++ cs)) w = .go (G (c.finish v) (l' ++ cs)) w #[] := fun w main cs => by
        simp [stepG, G, hm, unwind, hf.defers, h1, (hv w).1, (hv w).2, doReturn, hf.kind, GStep.after, seen]
      exact .go (c.finish v) l' w #[] (hc.1.finish v).1 (fun x hx => hl x (by simp [hx])) (Nat.le_refl _) (by simp) (hst w) ⟨Nat.le_refl _, rfl, fun Sb w₂ hp ht => ⟨w₂, hst w₂, ⟨hp, Nat.le_refl _, by simp, rfl, rfl⟩, by simp⟩⟩
end
end Go.Proofs.Ytkbfcaaihellfaa

/- Plain code: a contract of a lone call holds wherever nobody else acts, and what the call lists is well. No program in sight. -/
namespace Go.Proofs.Ytkbfcaaihellfaa
open Go.Conc Go.ConcN
set_option linter.unusedVariables false
set_option linter.unusedSectionVars false
set_option linter.unusedSimpArgs false

section
variable {P : Program} {F : FuncId → Bool}
/-- A frame below which no run gets. -/
def doorF (P : Program) : Frame := { fn := P.funcs.size, tmps := #[], todo := [.call default false "fmt's door?" #[]], defers := [], mode := .run, kind := .normal }
theorem door_row : Extern.next "fmt's door?" = none := by kernel_rfl
theorem door_starts : ("fmt's door?".startsWith "fmt's door") = true := by kernel_rfl
theorem door_fn : P.funcs[P.funcs.size]? = none := by simp
theorem step_door_in {w : World} {v : Value} : ∃ o w', step P (lone ((doorF P).finish v) [] w) = .ended o w' := by
  refine ⟨_, w, step_lone_ended (o := .stuck ("no extern row " ++ "fmt's door?") (Frame.pos P ((doorF P).finish v))) ?_⟩
  simp [doorF, Frame.finish, stepG, stepG.exec, door_row]
theorem step_door_trap {w : World} {ch : List PanicEntry} : ∃ o w', step P (lone ((doorF P).raise ch) [] w) = .ended o w' := by
  refine ⟨_, w, step_lone_ended (o := .unsupported (.noEntry "a panic or Goexit out of a method that fmt calls behind a cut's door") (Frame.pos P ((doorF P).raise ch))) ?_⟩
  have hc : ((doorF P).raise ch).catches P = true := by
    unfold Frame.catches Frame.raise doorF
    simp [door_starts]
  unfold stepG
  simp only [Frame.raise, doorF] at hc ⊢
  simp [unwind, hc]
theorem runN_ended {m : Machine} {o : Outcome} {w : World} (h : step P m = .ended o w) {n : Nat} {m' : Machine} : runN P (n + 1) m ≠ .next m' := by
  unfold runN; rw [h]; exact fun e => by cases e
/-- Once it panics it does not come back. -/
theorem trap_dead {fe : Frame} {we : World} (he : fe.mode = .returning) : ∀ (n : Nat) (fr : Frame) (l : List Frame) (w : World), (∃ ch, fr.mode = .panicking ch) → fr.defers = [] → (∀ x ∈ l, CleanF P F x ∧ x.mode = .run) → runN P n (lone fr (l ++ [doorF P]) w) ≠ .next (lone fe [doorF P] we) := by
  intro n
  induction n with
  | zero =>
    rintro fr l w ⟨ch, hm⟩ _ _ e
    simp only [runN, Stepped.next.injEq] at e
    have : fr = fe := by have := congrArg (fun m => (m.gs[0]?).map (·.frame)) e; simpa [lone] using this
    rw [this, he] at hm
    cases hm
  | succ n ih =>
    rintro fr l w ⟨ch, hm⟩ hd hl e
    by_cases hc : fr.catches P = true
    · have : step P (lone fr (l ++ [doorF P]) w) = .ended (.unsupported (.noEntry "a panic or Goexit out of a method that fmt calls behind a cut's door") (fr.pos P)) w := step_lone_ended (by simp [stepG, hm, unwind, hd, hc])
      exact runN_ended this e
    · have hc' : fr.catches P = false := by simpa using hc
      cases l with
      | nil =>
        have : step P (lone fr ([] ++ [doorF P]) w) = .next (lone ((doorF P).raise ch) [] w) := step_lone_go (by simp [stepG, hm, unwind, hd, hc'])
        unfold runN at e
        rw [this] at e
        cases n with
        | zero =>
          simp only [runN, Stepped.next.injEq] at e
          have := congrArg (fun m => (m.gs[0]?).map (·.callers)) e
          simp [lone] at this
        | succ n =>
          obtain ⟨o, w', h⟩ := step_door_trap (P := P) (w := w) (ch := ch)
          exact runN_ended h e
      | cons x l' =>
        have : step P (lone fr (x :: l' ++ [doorF P]) w) = .next (lone (x.raise ch) (l' ++ [doorF P]) w) := step_lone_go (by simp [stepG, hm, unwind, hd, hc'])
        unfold runN at e
        rw [this] at e
        have hx := hl x (by simp)
        refine ih (x.raise ch) l' w ?_ ?_ (fun z hz => hl z (by simp [hz])) e
        · unfold Frame.raise; rw [hx.2]; exact ⟨_, rfl⟩
        · unfold Frame.raise; rw [hx.2]; exact hx.1.defers
section
variable {main : Bool} {γ : Type} {R : γ → World → World → Prop} {D : γ → World → World → Array Event → γ → Prop} {T : γ → Goroutine → World → Prop} {y : γ}
theorem go_back (hP : Plain P F) (hT : Clo P main R D T) (hR : ∀ w w₁, R y w w₁ → w₁ = w) (hD : ∀ w w' es, w.heap.size ≤ w'.heap.size → (∀ e ∈ es, EvP w'.heap.size e) → D y w w' es y) {fe c : Frame} {cs : List Frame} {we : World} {v : Value}
    (hlv : fe.leaving P we (.returned v)) (hend : T y (G (c.finish v) cs) we) : ∀ (n : Nat) (fr : Frame) (l : List Frame) (w : World), CleanF P F fr → (∀ x ∈ l, CleanF P F x ∧ x.mode = .run) → runN P n (lone fr (l ++ [doorF P]) w) = .next (lone fe [doorF P] we) → T y (G fr (l ++ c :: cs)) w := by
  intro n
  induction n with
  | zero =>
    intro fr l w hf hl e
    simp only [runN, Stepped.next.injEq] at e
    have e1 : fr = fe := by have := congrArg (fun m => (m.gs[0]?).map (·.frame)) e; simpa [lone] using this
    have e2 : l = [] := by
      have := congrArg (fun m => (m.gs[0]?).map (·.callers)) e
      have h3 : l ++ [doorF P] = [doorF P] := by simpa [lone] using this
      have := congrArg List.length h3
      simp at this
      exact this
    have e3 : w = we := by have := congrArg (fun m => m.world) e; simpa [lone] using this
    subst e1 e2 e3
    obtain ⟨hm, hd, hk, fn, h1, h2⟩ := hlv
    obtain ⟨fn', _, h1', _, _, _, h5, _⟩ := hP.info hf.fn
    rw [h1] at h1'; cases h1'
    obtain ⟨v', hv', he'⟩ := results_tmps (tmps := fr.tmps) h5 P w
    refine hT.step rfl fun w₁ r => ?_
    rw [hR _ _ r]
    refine ⟨_, w, #[], y, ?_, hT.idle _ _, hend⟩
    simp [stepG, G, hm, unwind, hd, h1, h2, he', doReturn, hk, GStep.after, seen]
  | succ n ih =>
    intro fr l w hf hl e
    by_cases hp : fr.mode = .run ∨ l ≠ []
    · rcases clean_step hP hf hl w hp with ⟨fr', l', w', es, hf', hl', hs, hev, hgo, _⟩ | ⟨fr', w', es, hm, hd, hgo⟩ | hen
      · have hst : step P (lone fr (l ++ [doorF P]) w) = .next (lone fr' (l' ++ [doorF P]) w') := step_lone_go (by
          have := hgo true [doorF P]
          unfold G at this
          rw [this]; rfl)
        unfold runN at e
        rw [hst] at e
        have := ih fr' l' w' hf' hl' e
        refine hT.step rfl fun w₁ r => ?_
        rw [hR _ _ r]
        exact ⟨_, w', es, y, hgo main (c :: cs), hD _ _ _ hs hev, this⟩
      · have hst : step P (lone fr (l ++ [doorF P]) w) = .next (lone fr' (l ++ [doorF P]) w') := step_lone_go (by
          have := hgo true [doorF P]
          unfold G at this
          rw [this]; rfl)
        unfold runN at e
        rw [hst] at e
        exact absurd e (trap_dead hlv.1 n fr' l w' hm hd hl)
      · obtain ⟨o, w', es, h⟩ := hen true [doorF P]
        have hst : step P (lone fr (l ++ [doorF P]) w) = .ended o w' := step_lone_ended (by
          unfold G at h
          rw [h]; rfl)
        exact absurd e (runN_ended hst)
    · have hm : fr.mode = .returning := hf.mode.resolve_left fun h => hp (.inl h)
      have hl0 : l = [] := Classical.byContradiction fun h => hp (.inr h)
      subst hl0
      obtain ⟨fn, _, h1, _, _, _, h5, _⟩ := hP.info hf.fn
      obtain ⟨v', hv', he'⟩ := results_tmps (tmps := fr.tmps) h5 P w
      have hst : step P (lone fr ([] ++ [doorF P]) w) = .next (lone ((doorF P).finish v') [] w) := step_lone_go (by simp [stepG, hm, unwind, hf.defers, h1, hv', he', doReturn, hf.kind])
      unfold runN at e
      rw [hst] at e
      cases n with
      | zero =>
        simp only [runN, Stepped.next.injEq] at e
        have := congrArg (fun m => (m.gs[0]?).map (·.callers)) e
        simp [lone] at this
      | succ n =>
        obtain ⟨o, w', h⟩ := step_door_in (P := P) (w := w) (v := v')
        exact absurd e (runN_ended h)
/-- A LONE CONTRACT OF A PLAIN FUNCTION, wherever nobody else acts. -/
theorem callsT_of_calls (hP : Plain P F) (hT : Clo P main R D T) (hR : ∀ w w₁, R y w w₁ → w₁ = w) (hD : ∀ w w' es, w.heap.size ≤ w'.heap.size → (∀ e ∈ es, EvP w'.heap.size e) → D y w w' es y) {f : FuncId} (hf : F f = true) {args : Array Value} {w : World} {Q : Ending → World → Prop} {Post : Value → World → Prop}
    (h : Calls P f args w Q) (hq : ∀ e w', Q e w' → ∃ v, e = .returned v ∧ Post v w') : CallsT P T f args y w (fun v y' w' => y' = y ∧ Post v w') := by
  intro c cs hc
  obtain ⟨e, w', fr, hQ, hcm, hfn, hlv⟩ := h [doorF P]
  obtain ⟨v, rfl, hpost⟩ := hq e w' hQ
  obtain ⟨n, hn⟩ := hcm
  have := go_back hP hT hR hD (c := c) (cs := cs) hlv (hc v y w' ⟨rfl, hpost⟩) n (Frame.enter P f args .normal) [] w (CleanF.enter hP hf args).1 (by simp) hn
  simpa using this
end
end
end Go.Proofs.Ytkbfcaaihellfaa

/- The plain functions of this program. -/
namespace Go.Proofs.Ytkbfcaaihellfaa
open Go.Conc Go.ConcN
set_option linter.unusedVariables false

def plainIds : List Nat := [9, 10, 12, 13, 14, 15, 16, 17, 19, 20, 21, 22, 23, 24, 25, 26, 27, 28, 29, 30, 31, 32, 33, 34, 35, 36, 37, 38, 39, 40, 43, 44, 45, 47, 48, 49, 50, 51, 52, 53, 54, 55, 56, 61, 63, 64, 65, 66, 67, 68, 69, 70, 90, 91, 92, 93, 94, 100, 101]
def plainF (f : FuncId) : Bool := plainIds.contains f
theorem plain_all : (plainIds.all fun f => okFn Try.prog plainF f) = true := by kernel_rfl
theorem plain_ready : (Try.prog.funcs.toList.all fun f => ((f.body.map readies).getD []).isEmpty) = true := by kernel_rfl
theorem plain_ahead : Try.prog.follows .staticDataAhead = true := by kernel_rfl
theorem plainP : Plain Try.prog plainF := by
  refine ⟨fun f hf => ?_, plain_ahead, fun g => ?_⟩
  · exact List.all_eq_true.1 plain_all f (by simpa [plainF] using hf)
  · unfold Program.stepOf
    rw [Array.findIdx?_eq_none_iff]
    intro f hf
    have := List.all_eq_true.1 plain_ready f (by simpa using hf)
    cases hb : f.body with
    | none => rfl
    | some c =>
      rw [hb] at this
      have : readies c = [] := by simpa using this
      simp [this]
end Go.Proofs.Ytkbfcaaihellfaa

/- Contracts of small functions of the counts. -/
namespace Go.Proofs.Ytkbfcaaihellfaa
open Go.RowKit
set_option linter.unusedVariables false

theorem hid {p : Prop} (h : p) : Hid p := h

theorem ret_bool {a b : Bool} (h : a = b) : Ending.returned (.bool a) = .returned (.bool b) := by rw [h]
theorem ret_int {k : IntKind} {a b : Int} (h : a = b) : Ending.returned (.int k a) = .returned (.int k b) := by rw [h]

theorem l1In_t (n lo hi : Int) (w : World) (h : lo ≤ n ∧ n ≤ hi) :
    Calls Try.prog 55 #[.int .i64 n, .int .i64 lo, .int .i64 hi] w fun e w' => e = .returned (.bool true) ∧ w = w' := by
  obtain ⟨h1, h2⟩ := h
  go_enter Try.func55, Try.ntmps55
  go_wp2
  all_goals go_ret
  all_goals exact ⟨ret_bool (by first | rfl | (simp; omega)), rfl⟩
theorem l1In_f (n lo hi : Int) (w : World) (h : ¬ (lo ≤ n ∧ n ≤ hi)) :
    Calls Try.prog 55 #[.int .i64 n, .int .i64 lo, .int .i64 hi] w fun e w' => e = .returned (.bool false) ∧ w = w' := by
  go_enter Try.func55, Try.ntmps55
  go_wp2
  all_goals go_ret
  all_goals exact ⟨ret_bool (by first | rfl | (simp; omega)), rfl⟩
def partsN : Nat → Nat → Int
  | 0, 0 => 1
  | 0, _ + 1 => 0
  | _ + 1, 0 => 0
  | t + 1, l + 1 => if l + 1 > t + 1 then 0 else partsN t l + (l + 1) * partsN t (l + 1)

theorem partsN_bd : ∀ t ≤ 7, ∀ l ≤ 7, 0 ≤ partsN t l ∧ partsN t l ≤ 1000 := by decide +kernel
theorem partsN_bd' (t l : Int) (h1 : t ≤ 7) (h2 : l ≤ 7) : 0 ≤ partsN t.toNat l.toNat ∧ partsN t.toNat l.toNat ≤ 1000 := partsN_bd _ (by omega) _ (by omega)
theorem partsN_lt (t l : Nat) (h : t < l) : partsN t l = 0 := by
  cases t <;> cases l <;> simp [partsN] <;> omega
theorem partsN_z (t : Nat) : partsN (t + 1) 0 = 0 := rfl
theorem partsN_rec (t l : Int) (h : 0 < l) (h2 : l ≤ t) : partsN t.toNat l.toNat = partsN (t - 1).toNat (l - 1).toNat + l * partsN (t - 1).toNat l.toNat := by
  obtain ⟨a, rfl⟩ : ∃ a : Nat, t = a + 1 := ⟨(t - 1).toNat, by omega⟩
  obtain ⟨b, rfl⟩ : ∃ b : Nat, l = b + 1 := ⟨(l - 1).toNat, by omega⟩
  rw [show ((a : Int) + 1).toNat = a + 1 by omega, show ((b : Int) + 1).toNat = b + 1 by omega, partsN, if_neg (by omega)]
  congr 2 <;> congr 1 <;> omega

def partsOf (t l : Int) : Int := if (0 ≤ t ∧ t ≤ 7) ∧ (0 ≤ l ∧ l ≤ 7) then partsN t.toNat l.toNat else -1
end Go.Proofs.Ytkbfcaaihellfaa
