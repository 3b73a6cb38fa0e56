/- Steps on the way to the law; each part says what it proves. -/
import Derived.Test.YtkbfcaaihellfaaV4

set_option linter.unusedSimpArgs false

/- Workers with lanes and their starter: a private step of a worker's, a private step of the starter's. No program in sight. -/
namespace Go.Proofs.Ytkbfcaaihellfaa
open Go.Conc Go.ConcN
open Go.ConcR (KK wgBlock WgAt stA smA rd wr mk Payload Aside2 DC0 Bk g_of_ofEvents)
set_option linter.unusedVariables false
set_option linter.unusedSectionVars false

def owNew (ow : Nat → Ow) (a b : Nat) (o : Ow) : Nat → Ow := fun x => if a ≤ x ∧ x < b then o else ow x
theorem owNew_in {ow : Nat → Ow} {a b x : Nat} {o : Ow} (h : a ≤ x ∧ x < b) : owNew ow a b o x = o := if_pos h
theorem owNew_out {ow : Nat → Ow} {a b x : Nat} {o : Ow} (h : ¬ (a ≤ x ∧ x < b)) : owNew ow a b o x = ow x := if_neg h

section
variable [Payload] {P : Program} {ty : TypeId} {Wg C n LW : Nat} {Rw : List Int → Nat → Obj → Value → Prop}
variable {j : Nat} {gs : Array Goroutine} {w w' : World} {t u : Trace} {X : Nat → Wk} {M0 S0 : Nat → Prop} {ow : Nat → Ow} {d0 : Nat}

/-- A step that leaves alone all that is not worker i's: memory may have grown. -/
structure Pvt (ow : Nat → Ow) (o : Ow) (w w' : World) : Prop where
  keep : ∀ b, ow b ≠ o → b < w.heap.size → w'.heap[b]? = w.heap[b]?
  size : w.heap.size ≤ w'.heap.size
theorem OwnG.pvtLive (O : OwnG Wg C LW j w X M0 S0 ow) {o : Ow} (ho : o ≠ .wg) (hp : Pvt ow o w w') : WgLive ty Wg w → WgLive ty Wg w' :=
  live_of (hp.keep Wg (by rw [O.wg]; exact fun e => ho e.symm) (O.lt (by rw [O.wg]; exact Ow.noConfusion)))
theorem OwnG.pvtKeep (O : OwnG Wg C LW j w X M0 S0 ow) {o : Ow} (hp : Pvt ow o w w') {b : Nat} (h1 : ow b ≠ o) (h2 : ow b ≠ .fr) : w'.heap[b]? = w.heap[b]? := hp.keep b h1 (O.lt h2)

/-- Whose is what, behind a step by which worker i's blocks may have grown in number. -/
theorem OwnG.newW (O : OwnG Wg C LW j w X M0 S0 ow) {i : Nat} (hi : i < j) (hsz : w.heap.size ≤ w'.heap.size) {x' : Wk} (hc : x'.c = (X i).c) (hS : x'.S = (X i).S) (hM : ∀ b, x'.M b ↔ (X i).M b ∨ (w.heap.size ≤ b ∧ b < w'.heap.size)) :
    OwnG Wg C LW j w' (upd X i x') M0 S0 (owNew ow w.heap.size w'.heap.size (.wk i)) := by
  have old : ∀ {b}, ow b ≠ .fr → owNew ow w.heap.size w'.heap.size (.wk i) b = ow b := fun {b} h => owNew_out fun e => h ((O.fr b).1 e.1)
  have hu : ∀ i' b, (upd X i x' i').S b → (X i').S b := fun i' b h => by
    by_cases e : i' = i
    · subst e; rw [upd_same, hS] at h; exact h
    · rwa [upd_ne X x' e] at h
  have hcu : ∀ i', (upd X i x' i').c = (X i').c := fun i' => by
    by_cases e : i' = i
    · subst e; rw [upd_same, hc]
    · rw [upd_ne X x' e]
  have new : ∀ b, w.heap.size ≤ b → ow b = .fr := fun b h => (O.fr b).1 h
  refine ⟨fun i' hi' b => ?_, fun b => ?_, fun b h => ?_, fun i' hi' b h => ?_, fun i' hi' => ?_, fun i' i'' h1 h2 h3 => ?_, ?_, fun b h => ?_, ?_, fun b => ?_, fun b h1 h2 => ?_, fun i' b h => ?_, fun i' hi' => ?_⟩
  · by_cases hb : w.heap.size ≤ b ∧ b < w'.heap.size
    · rw [owNew_in hb]
      by_cases e : i' = i
      · subst e; rw [upd_same, hM]; exact ⟨fun _ => rfl, fun _ => .inr hb⟩
      · rw [upd_ne X x' e, O.m i' hi', new b hb.1]
        exact ⟨fun h => (by cases h), fun h => absurd (Ow.wk.inj h).symm e⟩
    · rw [owNew_out hb, ← O.m i' hi']
      by_cases e : i' = i
      · subst e; rw [upd_same, hM]; exact ⟨fun h => h.resolve_right hb, .inl⟩
      · rw [upd_ne X x' e]
  · rw [O.m0]
    by_cases hb : w.heap.size ≤ b ∧ b < w'.heap.size
    · rw [owNew_in hb, new b hb.1]; exact ⟨fun h => (by cases h), fun h => (by cases h)⟩
    · rw [owNew_out hb]
  · have := O.s0 b h
    rw [old (by rw [this]; exact Ow.noConfusion), this]
  · have := O.s i' hi' b (hu i' b h)
    rw [old (by rw [this.1]; exact Ow.noConfusion)]; exact this
  · rw [hcu, old (by rw [O.c i' hi']; exact Ow.noConfusion), O.c i' hi']
  · rw [hcu, hcu] at h3; exact O.cc i' i'' h1 h2 h3
  · rw [old (by rw [O.wg]; exact Ow.noConfusion), O.wg]
  · by_cases hb : w.heap.size ≤ b ∧ b < w'.heap.size
    · rw [owNew_in hb] at h; cases h
    · rw [owNew_out hb] at h; exact O.wg1 b h
  · rw [old (by rw [O.cst]; exact Ow.noConfusion), O.cst]
  · by_cases hb : w.heap.size ≤ b ∧ b < w'.heap.size
    · rw [owNew_in hb]; exact ⟨fun h => absurd hb.2 (by omega), fun h => (by cases h)⟩
    · rw [owNew_out hb, ← O.fr]; omega
  · have := O.low b h1 h2
    rw [old (by rw [this]; exact Ow.noConfusion), this]
  · by_cases hb : w.heap.size ≤ b ∧ b < w'.heap.size
    · rw [owNew_in hb] at h; have := Ow.wk.inj h; omega
    · rw [owNew_out hb] at h; exact O.wk i' b h
  · rw [upd_ne X x' (by omega)]; exact O.out i' hi'
/-- .. by which the starter's may have. -/
theorem OwnG.new0 (O : OwnG Wg C LW j w X M0 S0 ow) (hsz : w.heap.size ≤ w'.heap.size) : OwnG Wg C LW j w' X (fun b => M0 b ∨ (w.heap.size ≤ b ∧ b < w'.heap.size)) S0 (owNew ow w.heap.size w'.heap.size .mn) := by
  have old : ∀ {b}, ow b ≠ .fr → owNew ow w.heap.size w'.heap.size .mn b = ow b := fun {b} h => owNew_out fun e => h ((O.fr b).1 e.1)
  have new : ∀ b, w.heap.size ≤ b → ow b = .fr := fun b h => (O.fr b).1 h
  refine ⟨fun i' hi' b => ?_, fun b => ?_, fun b h => ?_, fun i' hi' b h => ?_, fun i' hi' => ?_, O.cc, ?_, fun b h => ?_, ?_, fun b => ?_, fun b h1 h2 => ?_, fun i' b h => ?_, O.out⟩
  · rw [O.m i' hi']
    by_cases hb : w.heap.size ≤ b ∧ b < w'.heap.size
    · rw [owNew_in hb, new b hb.1]; exact ⟨fun h => (by cases h), fun h => (by cases h)⟩
    · rw [owNew_out hb]
  · by_cases hb : w.heap.size ≤ b ∧ b < w'.heap.size
    · rw [owNew_in hb]; exact ⟨fun _ => rfl, fun _ => .inr hb⟩
    · rw [owNew_out hb, O.m0 b |>.symm]; exact ⟨fun h => h.resolve_right hb, .inl⟩
  · have := O.s0 b h
    rw [old (by rw [this]; exact Ow.noConfusion), this]
  · have := O.s i' hi' b h
    rw [old (by rw [this.1]; exact Ow.noConfusion)]; exact this
  · rw [old (by rw [O.c i' hi']; exact Ow.noConfusion), O.c i' hi']
  · rw [old (by rw [O.wg]; exact Ow.noConfusion), O.wg]
  · by_cases hb : w.heap.size ≤ b ∧ b < w'.heap.size
    · rw [owNew_in hb] at h; cases h
    · rw [owNew_out hb] at h; exact O.wg1 b h
  · rw [old (by rw [O.cst]; exact Ow.noConfusion), O.cst]
  · by_cases hb : w.heap.size ≤ b ∧ b < w'.heap.size
    · rw [owNew_in hb]; exact ⟨fun h => absurd hb.2 (by omega), fun h => (by cases h)⟩
    · rw [owNew_out hb, ← O.fr]; omega
  · have := O.low b h1 h2
    rw [old (by rw [this]; exact Ow.noConfusion), this]
  · by_cases hb : w.heap.size ≤ b ∧ b < w'.heap.size
    · rw [owNew_in hb] at h; cases h
    · rw [owNew_out hb] at h; exact O.wk i' b h

/-- The other workers under a step of somebody's. -/
theorem Base.others (B : Base P ty Wg C n LW Rw j gs w t X d0) (O : OwnG Wg C LW j w X M0 S0 ow) {a : Nat} {g g' : Goroutine} {i' : Nat} (hi' : i' < j) (hne : i' + 1 ≠ a)
    (hr : RA ty Wg C n LW (i' + 1) (X i') w w') (hch : w'.heap[(X i').c]? = w.heap[(X i').c]?) : ∃ x, ((gs.map (woken P g g' w')).setIfInBounds a g')[i' + 1]? = some x ∧ WOk P ty Wg C n LW Rw (i' + 1) (X i') x w' := by
  obtain ⟨x, hx, hsx⟩ := B.wk i' hi'
  refine ⟨x, ?_, hsx.rely hr⟩
  rw [get_map_set _ _ _ _ (fun e => hne e.symm), hx, Option.map_some, hsx.woken (fun h8 => ?_)]
  obtain ⟨s, hs⟩ := B.ch i' hi'
  rw [h8] at hs
  exact ⟨_, _, _, _, _, hch.trans hs⟩

theorem Base.stepW (B : Base P ty Wg C n LW Rw j gs w t X d0) (O : OwnG Wg C LW j w X M0 S0 ow) {i : Nat} (hi : i < j) (h9 : 7 ≤ (X i).st) (hd9 : (X i).d = 0) {g g' : Goroutine} {fn : FuncId} {pos : String} {es : Array Event} (hp : Pvt ow (.wk i) w w')
    (hes : ∀ e ∈ es, EvM (X i).M (X i).S e) {x' : Wk} (hx : WOk P ty Wg C n LW Rw (i + 1) x' g' w') (hc : x'.c = (X i).c) (hS : x'.S = (X i).S) (hM : ∀ b, x'.M b ↔ (X i).M b ∨ (w.heap.size ≤ b ∧ b < w'.heap.size)) (h9' : x'.st = (X i).st) (hd' : x'.d = 0) :
    Base P ty Wg C n LW Rw j ((gs.map (woken P g g' w')).setIfInBounds (i + 1) g') w' (t ++ MemOp.ofEvents (i + 1) fn pos es) (upd X i x') d0 := by
  have kp : ∀ {b}, ow b ≠ .wk i → ow b ≠ .fr → w'.heap[b]? = w.heap[b]? := fun h1 h2 => O.pvtKeep hp h1 h2
  have hC : w'.heap[C]? = w.heap[C]? := kp (by rw [O.cst]; exact Ow.noConfusion) (by rw [O.cst]; exact Ow.noConfusion)
  have hch : ∀ i', i' < j → w'.heap[(X i').c]? = w.heap[(X i').c]? := fun i' hi' => kp (by rw [O.c i' hi']; exact Ow.noConfusion) (by rw [O.c i' hi']; exact Ow.noConfusion)
  have hst : ∀ i', (upd X i x' i').st = (X i').st := fun i' => by
    by_cases e : i' = i
    · subst e; rw [upd_same, h9']
    · rw [upd_ne X x' e]
  have hcu : ∀ i', (upd X i x' i').c = (X i').c := fun i' => by
    by_cases e : i' = i
    · subst e; rw [upd_same, hc]
    · rw [upd_ne X x' e]
  have ct1 := B.ct.appW O.apart (k := i + 1) (by omega) (by omega) (O.okW (fn := fn) (pos := pos) hes)
  have lo1 := low_app (u := MemOp.ofEvents (i + 1) fn pos es) (w' := w) B.low (Nat.le_refl _) (fun op hop x hx hm => by
    obtain ⟨_, e, he, ha⟩ := mem_ofEvents hop
    rw [ha] at hx
    obtain ⟨_, _, h4⟩ := touch_evM (hes e he) hx
    rcases h4 with h4 | ⟨h4, _⟩
    · exact O.lt (by rw [O.hm h4]; exact Ow.noConfusion)
    · exact O.lt (by rw [O.hs h4]; exact Ow.noConfusion))
  refine ⟨by simp [B.size], fun i' hi' => ?_, ?_, fun a x hx hm => Nat.lt_of_lt_of_le (lo1 a x hx hm) hp.size, B.norel.app (norel_evM hes), by rw [Deaf_other t (by omega) _ g_of_ofEvents, B.deaf0], fun i' hi' => ?_, fun i' hi' hs => ?_, fun i' hi' => ?_,
    (let ⟨cs, h1, h2⟩ := B.pay; ⟨cs, hC.trans h1, h2⟩), fun i' hi' => ?_, fun i' hi' => by rw [hst]; exact B.low7 i' hi'⟩
  · by_cases e : i' = i
    · subst e
      exact ⟨g', get_map_set_same _ _ _ (by rw [B.size]; omega), by rw [upd_same]; exact hx⟩
    · rw [upd_ne X x' e]
      exact B.others O hi' (by omega) (O.ra hi' (fun b hb => kp (hb.elim (fun hb => by rw [hb]; exact fun h => e (Ow.wk.inj h)) (fun hb => by rw [hb]; exact Ow.noConfusion)) (by rcases hb with hb | hb <;> rw [hb] <;> exact Ow.noConfusion)) hp.size (O.pvtLive Ow.noConfusion hp)) (hch i' hi')
  · refine ct_fresh ct1 (fun l => l.isMemory = true ∧ w.heap.size ≤ blk l) (fun a x hx hn => by have := lo1 a x hx hn.1; omega) (fun k l hl => ?_) (fun k l hl => ?_)
    · unfold OwnF
      by_cases e : k - 1 = i
      · rw [e, upd_same, hM]
        exact ⟨fun h => ⟨h.1, h.2.1, h.2.2.resolve_right fun h2 => hl ⟨h.2.1, h2.1⟩⟩, fun h => ⟨h.1, h.2.1, .inl h.2.2⟩⟩
      · rw [upd_ne X x' e]
    · unfold RdF
      by_cases e : k - 1 = i
      · rw [e, upd_same, hS, hc]
      · rw [upd_ne X x' e]
  · by_cases e : i' = i
    · subst e; rw [Deaf_own, B.deafW i' hi', upd_same, hd', hd9]; exact deaf_evM hes 0
    · rw [Deaf_other t (by omega) _ g_of_ofEvents, B.deafW i' hi', upd_ne X x' e]
  · rw [hst] at hs
    have hne : i' ≠ i := fun e => by subst e; omega
    obtain ⟨r, hr⟩ := B.rel i' hi' hs
    exact ⟨r, hr.appOther g_of_ofEvents (by omega)⟩
  · rw [hcu]; exact (cell_of_block hC i').trans (B.has i' hi')
  · rw [hcu, hst, hch i' hi']; exact B.ch i' hi'
theorem Base.step0g (B : Base P ty Wg C n LW Rw j gs w t X d0) (O : OwnG Wg C LW j w X M0 S0 ow) {g g' : Goroutine} {fn : FuncId} {pos : String} {es : Array Event} (hp : Pvt ow .mn w w') (hok : ∀ op ∈ MemOp.ofEvents 0 fn pos es, Ok0 (ShN Wg) (OwnF X) (RdF X) j op)
    (hlow : ∀ op ∈ MemOp.ofEvents 0 fn pos es, ∀ y, op.act.touch? = some y → y.loc.isMemory = true → blk y.loc < w.heap.size) (hnr : ∀ op ∈ MemOp.ofEvents 0 fn pos es, op.act ≠ .mark (.release (stA Wg))) (hdf : deafBehind d0 es = d0) :
    Base P ty Wg C n LW Rw j ((gs.map (woken P g g' w')).setIfInBounds 0 g') w' (t ++ MemOp.ofEvents 0 fn pos es) X d0 := by
  have kp : ∀ {b}, ow b ≠ .mn → ow b ≠ .fr → w'.heap[b]? = w.heap[b]? := fun h1 h2 => O.pvtKeep hp h1 h2
  have hC : w'.heap[C]? = w.heap[C]? := kp (by rw [O.cst]; exact Ow.noConfusion) (by rw [O.cst]; exact Ow.noConfusion)
  have hch : ∀ i', i' < j → w'.heap[(X i').c]? = w.heap[(X i').c]? := fun i' hi' => kp (by rw [O.c i' hi']; exact Ow.noConfusion) (by rw [O.c i' hi']; exact Ow.noConfusion)
  have lo1 := low_app (u := MemOp.ofEvents 0 fn pos es) (w' := w) B.low (Nat.le_refl _) hlow
  refine ⟨by simp [B.size], fun i' hi' => ?_, B.ct.app0 O.apart hok, fun a x hx hm => Nat.lt_of_lt_of_le (lo1 a x hx hm) hp.size, B.norel.app hnr, by rw [Deaf_own, B.deaf0]; exact hdf, fun i' hi' => by rw [Deaf_other t (by omega) _ g_of_ofEvents, B.deafW i' hi'], fun i' hi' hs => ?_,
    fun i' hi' => (cell_of_block hC i').trans (B.has i' hi'), (let ⟨cs, h1, h2⟩ := B.pay; ⟨cs, hC.trans h1, h2⟩), fun i' hi' => by rw [hch i' hi']; exact B.ch i' hi', B.low7⟩
  · exact B.others O hi' (by omega) (O.ra hi' (fun b hb => kp (by rcases hb with hb | hb <;> rw [hb] <;> exact Ow.noConfusion) (by rcases hb with hb | hb <;> rw [hb] <;> exact Ow.noConfusion)) hp.size (O.pvtLive Ow.noConfusion hp)) (hch i' hi')
  · obtain ⟨r, hr⟩ := B.rel i' hi' hs
    exact ⟨r, hr.appOther g_of_ofEvents (by omega)⟩
theorem OwnG.low0 (O : OwnG Wg C LW j w X M0 S0 ow) {fn : FuncId} {pos : String} {es : Array Event} (hes : ∀ e ∈ es, EvM M0 S0 e) : ∀ op ∈ MemOp.ofEvents 0 fn pos es, ∀ y, op.act.touch? = some y → y.loc.isMemory = true → blk y.loc < w.heap.size := fun op hop x hx hm => by
  obtain ⟨_, e, he, ha⟩ := mem_ofEvents hop
  rw [ha] at hx
  obtain ⟨_, _, h4⟩ := touch_evM (hes e he) hx
  rcases h4 with h4 | ⟨h4, _⟩
  · exact O.lt (by rw [(O.m0 _).1 h4]; exact Ow.noConfusion)
  · exact O.lt (by rw [O.s0 _ h4]; exact Ow.noConfusion)
end

end Go.Proofs.Ytkbfcaaihellfaa

/- Workers with lanes and their starter: where the starter stands; the invariant up to the door of Wait; its measure. No program in sight. -/
namespace Go.Proofs.Ytkbfcaaihellfaa
open Go.Conc Go.ConcN
open Go.ConcR (KK wgBlock WgAt stA smA rd wr mk Payload Aside2 DC0 Bk g_of_ofEvents)
set_option linter.unusedVariables false
set_option linter.unusedSectionVars false

structure Mn where
  todo : List (List (List Int))
  L : List (Nat × List (List Int))
  S : Nat → Prop
  M : Nat → Prop
  tag : Nat
  f : Tr
  d : Nat

section
variable [Payload] (P : Program) (ty : TypeId) (Wg C n LW : Nat) (Rw : List Int → Nat → Obj → Value → Prop) (Dr : (Nat → Prop) → (Nat → Prop) → Goroutine → World → Prop)

/-- behind the last go statement -/
def DoorR (L : List (Nat × List (List Int))) (S M : Nat → Prop) (g : Goroutine) (w : World) : Prop := MRg P ty Wg Rw S (Dr S) L M g w
/-- behind a go statement -/
def AftGo (rest : List (List (List Int))) (j : Nat) (L : List (Nat × List (List Int))) (ls : List (List Int)) (c : Nat) (S M : Nat → Prop) (g : Goroutine) (w : World) : Prop :=
  MSp P ty Wg C n LW Rw (DoorR P ty Wg Rw Dr) rest (j + 1) (L ++ [(c, ls)]) S M g w
/-- behind a lane's end -/
def AftLane (S : Nat → Prop) (rest : List (Nat × List (List Int))) (M : Nat → Prop) (g : Goroutine) (w : World) : Prop := MRg P ty Wg Rw S (Dr S) rest M g w

inductive MOk (j : Nat) : Mn → Goroutine → World → Prop
  | lane {ls : List (List Int)} {rest : List (List (List Int))} {L : List (Nat × List (List Int))} {S M : Nat → Prop} {f : Tr} {g : Goroutine} {w : World} :
      Way P true ty Wg S (StLane P ty Wg C n LW Rw S j ls (AftGo P ty Wg C n LW Rw Dr rest j L ls)) f M g w → MOk j ⟨ls :: rest, L, S, M, 9, f, 0⟩ g w
  | kd {ls : List (List Int)} {rest : List (List (List Int))} {L : List (Nat × List (List Int))} {S M : Nat → Prop} {f : Tr} {c : Nat} {g : Goroutine} {w : World} :
      Way P true ty Wg S (StKd P ty Wg C n LW Rw S j ls (AftGo P ty Wg C n LW Rw Dr rest j L ls) c) f M g w → MOk j ⟨ls :: rest, L, S, M, 8, f, 0⟩ g w
  | a1 {ls : List (List Int)} {rest : List (List (List Int))} {L : List (Nat × List (List Int))} {S M : Nat → Prop} {f : Tr} {c : Nat} {g : Goroutine} {w : World} :
      Way P true ty Wg S (StA1 P ty Wg C n LW Rw S j ls (AftGo P ty Wg C n LW Rw Dr rest j L ls) c) f M g w → MOk j ⟨ls :: rest, L, S, M, 7, f, 1⟩ g w
  | ke {ls : List (List Int)} {rest : List (List (List Int))} {L : List (Nat × List (List Int))} {S M : Nat → Prop} {f : Tr} {c : Nat} {g : Goroutine} {w : World} :
      Way P true ty Wg S (StKe P ty Wg C n LW Rw S j ls (AftGo P ty Wg C n LW Rw Dr rest j L ls) c) f M g w → MOk j ⟨ls :: rest, L, S, M, 6, f, 1⟩ g w
  | go {ls : List (List Int)} {rest : List (List (List Int))} {L : List (Nat × List (List Int))} {S M : Nat → Prop} {f : Tr} {c : Nat} {g : Goroutine} {w : World} :
      Way P true ty Wg S (StGo P ty Wg C n LW Rw S j ls (AftGo P ty Wg C n LW Rw Dr rest j L ls) c) f M g w → MOk j ⟨ls :: rest, L, S, M, 5, f, 0⟩ g w
  | rg {c : Nat} {ls : List (List Int)} {rest : List (Nat × List (List Int))} {S M : Nat → Prop} {f : Tr} {g : Goroutine} {w : World} :
      Way P true ty Wg S (RStop P ty Wg Rw S c ls (AftLane P ty Wg Rw Dr S rest)) f M g w → MOk j ⟨[], (c, ls) :: rest, S, M, 4, f, 0⟩ g w
  | pk {c : Nat} {ls : List (List Int)} {rest : List (Nat × List (List Int))} {S M : Nat → Prop} {z : Value} {g₂ : Goroutine} {w : World} :
      (∀ w₁, RM ty Wg (fun b => M b ∨ S b) w w₁ → AtRecv P c g₂ g₂ z w₁ ∧ RAft P ty Wg Rw S c ls (AftLane P ty Wg Rw Dr S rest) M g₂ z w₁) → MOk j ⟨[], (c, ls) :: rest, S, M, 3, .leaf, 0⟩ (parked g₂ #[rcase c z] (.recv true)) w
  | door {S M : Nat → Prop} {g : Goroutine} {w : World} : (∀ w₁, RM ty Wg (fun b => M b ∨ S b) w w₁ → Dr S M g w₁) → MOk j ⟨[], [], S, M, 2, .leaf, 0⟩ g w

variable {P ty Wg C n LW Rw Dr}
section
variable {j : Nat} {x : Mn} {g a a' : Goroutine} {w w₁ w' : World}

theorem MOk.rely (h : MOk P ty Wg C n LW Rw Dr j x g w) (r : RM ty Wg (fun b => x.M b ∨ x.S b) w w₁) : MOk P ty Wg C n LW Rw Dr j x g w₁ := by
  cases h with
  | lane h => exact .lane (h.rely r)
  | kd h => exact .kd (h.rely r)
  | a1 h => exact .a1 (h.rely r)
  | ke h => exact .ke (h.rely r)
  | go h => exact .go (h.rely r)
  | rg h => exact .rg (h.rely r)
  | pk h => exact .pk fun w₂ h₂ => h w₂ (r.trans h₂)
  | door h => exact .door fun w₂ h₂ => h w₂ (r.trans h₂)
theorem RStop.running {S : Nat → Prop} {c : Nat} {ls : List (List Int)} {K : (Nat → Prop) → Goroutine → World → Prop} {M : Nat → Prop} (h : RStop P ty Wg Rw S c ls K M g w) : g.status = .running := by
  obtain ⟨_, _, h⟩ := (rstop_iff P ty Wg Rw).1 h
  exact (h w (RM.refl w)).1.1
/-- It runs, or it is parked at its receive. -/
theorem MOk.status (hD : ∀ S M g w, Dr S M g w → g.status = .running) (h : MOk P ty Wg C n LW Rw Dr j x g w) : (g.status = .running ∧ x.tag ≠ 3) ∨ (x.tag = 3 ∧ ∃ c ls rest g₂ z, x.L = (c, ls) :: rest ∧ g = parked g₂ #[rcase c z] (.recv true)) := by
  cases h with
  | lane h => exact .inl ⟨h.running fun _ _ _ h => h.1, by simp⟩
  | kd h => exact .inl ⟨h.running fun _ _ _ h => h.1, by simp⟩
  | a1 h => exact .inl ⟨h.running fun _ _ _ h => h.1, by simp⟩
  | ke h => exact .inl ⟨h.running fun _ _ _ h => h.1, by simp⟩
  | go h => exact .inl ⟨h.running fun _ _ _ h => h.1, by simp⟩
  | rg h => exact .inl ⟨h.running fun _ _ _ h => RStop.running h, by simp⟩
  | pk h => exact .inr ⟨rfl, _, _, _, _, _, rfl, rfl⟩
  | door h => exact .inl ⟨hD _ _ _ _ (h w (RM.refl w)), by simp⟩
/-- A receive that is tried anew. -/
theorem AtRecv.again {c : Nat} {g₂ : Goroutine} {z : Value} {cs : Array CommCase} {sh : CommShape} (h : AtRecv P c g g₂ z w) : AtRecv P c { parked g cs sh with status := .running } g₂ z w := by
  obtain ⟨h1, h2, h3, h4⟩ := h
  have e : ∀ w, stepG P true { parked g cs sh with status := .running } w = stepG P true g w := fun w => by
    rw [stepG_tries]; congr 1; cases g; simp only [Goroutine.mk.injEq, true_and] at h1 ⊢; simp_all
  exact ⟨rfl, h2, fun w => (h3 w).trans (e w).symm, fun d => (e _).trans (h4 d)⟩
/-- what it stands at is what it would stand at again -/
theorem AtRecv.self {c : Nat} {g₂ : Goroutine} {z : Value} (h : AtRecv P c g g₂ z w) : AtRecv P c g₂ g₂ z w := ⟨h.2.1, h.2.1, fun _ => rfl, fun d => (h.2.2.1 _).trans (h.2.2.2 d)⟩
theorem way_of {main : Bool} {S : Nat → Prop} {Stop : (Nat → Prop) → Goroutine → World → Prop} {M : Nat → Prop} (h : ∀ w₁, RM ty Wg (fun b => M b ∨ S b) w w₁ → Stop M g w₁) : Way P main ty Wg S Stop .leaf M g w := h
/-- The starter's record under a step of another's whose maker it is not: as it stood while its lane is open; let try anew where it has been closed. -/
theorem MOk.wokenOpen (hD : ∀ S M g w, Dr S M g w → g.status = .running) (h : MOk P ty Wg C n LW Rw Dr j x g w) (r : RM ty Wg (fun b => x.M b ∨ x.S b) w w') (hc : x.tag = 3 → ∀ c ls rest, x.L = (c, ls) :: rest → ∃ cap buf s k tm, w'.heap[c]? = some (.chan cap buf false s k tm)) :
    MOk P ty Wg C n LW Rw Dr j x (woken P a a' w' g) w' := by
  rcases h.status hD with ⟨hs, _⟩ | ⟨h3, c, ls, rest, g₂, z, hL, rfl⟩
  · rw [woken_run hs]; exact h.rely r
  · obtain ⟨cap, buf, s, k, tm, hch⟩ := hc h3 c ls rest hL
    rw [woken_recv_open a a' hch]; exact h.rely r
theorem MOk.wokenClosed {c : Nat} {ls : List (List Int)} {rest : List (Nat × List (List Int))} {S M : Nat → Prop} (h : MOk P ty Wg C n LW Rw Dr j ⟨[], (c, ls) :: rest, S, M, 3, .leaf, 0⟩ g w) (r : RM ty Wg (fun b => M b ∨ S b) w w') {cap s k : Nat} {buf : Array Value} {tm : Bool} (hc : w'.heap[c]? = some (.chan cap buf true s k tm))
    (hw : mayWake P a = true) (ha' : a'.status = .running) : MOk P ty Wg C n LW Rw Dr j ⟨[], (c, ls) :: rest, S, M, 4, .leaf, 0⟩ (woken P a a' w' g) w' := by
  cases h with
  | pk h =>
    rename_i z g₂
    have e : woken P a a' w' (parked g₂ #[rcase c z] (.recv true)) = { parked g₂ #[rcase c z] (.recv true) with status := .running } := by
      unfold Go.Conc.woken
      rw [if_pos (by simp [hw, ha'])]
      exact again_recv_closed hc
    rw [e]
    exact .rg (way_of fun w₁ h₁ => (rstop_iff P ty Wg Rw).2 ⟨_, _, fun w₂ h₂ => ⟨(h w₂ (r.trans (h₁.trans h₂))).1.again, (h w₂ (r.trans (h₁.trans h₂))).2⟩⟩)
end

/-! ### into the next tag -/
theorem MOk.ofRg {j : Nat} {S M : Nat → Prop} {g : Goroutine} {w : World} : ∀ {L : List (Nat × List (List Int))}, (L = [] → ∀ w₁, RM ty Wg (fun b => M b ∨ S b) w w₁ → Dr S M g w₁) → MRg P ty Wg Rw S (Dr S) L M g w → ∃ f tag, tag ≤ 4 ∧ tag ≠ 3 ∧ (tag = 2 ↔ L = []) ∧ MOk P ty Wg C n LW Rw Dr j ⟨[], L, S, M, tag, f, 0⟩ g w
  | [], hd, _ => ⟨.leaf, 2, by omega, by omega, by simp, .door (hd rfl)⟩
  | (c, ls) :: rest, _, ⟨f, h⟩ => ⟨f, 4, by omega, by omega, by simp, .rg h⟩
end

end Go.Proofs.Ytkbfcaaihellfaa

/- Workers with lanes and their starter: the invariant and its measure; a worker's private steps. No program in sight. -/
namespace Go.Proofs.Ytkbfcaaihellfaa
open Go.Conc Go.ConcN
open Go.ConcR (KK wgBlock WgAt stA smA rd wr mk Payload Aside2 DC0 Bk g_of_ofEvents)
set_option linter.unusedVariables false
set_option linter.unusedSectionVars false

def pot (x : Wk) : Nat := if x.st = 9 then 15 + 4 * x.rows.length else if x.st = 8 then 13 + 4 * x.rows.length else x.st
def cst (ls : List (List Int)) : Nat := 30 + 4 * ls.length
def rank (x : Mn) : Nat := (x.todo.map cst).sum + 4 * (x.L.length + x.todo.length) + x.tag
def cntA (j : Nat) (X : Nat → Wk) : Nat := sumTo j fun i => if 5 ≤ (X i).st then 1 else 0
def pendA (tag : Nat) : Nat := if tag = 6 ∨ tag = 5 then 1 else 0
abbrev Mu := Nat × List Tr × Nat
abbrev Lt3 : Mu → Mu → Prop := Prod.Lex (· < ·) (Prod.Lex LtL (· < ·))
theorem lt3_wf : WellFounded Lt3 := (Prod.lex Nat.lt_wfRel (Prod.lex ⟨LtL, ⟨ltL_acc⟩⟩ Nat.lt_wfRel)).wf
theorem lt3_1 {a c a' c' : Nat} {b b' : List Tr} (h : a' < a) : Lt3 (a', b', c') (a, b, c) := Prod.Lex.left _ _ h
theorem lt3_2 {a c a' c' : Nat} {b b' : List Tr} (h : a' = a) (h2 : LtL b' b) : Lt3 (a', b', c') (a, b, c) := by subst h; exact Prod.Lex.right _ (Prod.Lex.left _ _ h2)
theorem lt3_3 {a c a' c' : Nat} {b b' : List Tr} (h : a' = a) (h2 : b' = b) (h3 : c' < c) : Lt3 (a', b', c') (a, b, c) := by subst h; subst h2; exact Prod.Lex.right _ (Prod.Lex.right _ h3)

/-- The starter's list of lanes and the workers: q lanes have been closed behind it. -/
structure Lnk (j : Nat) (X : Nat → Wk) (x : Mn) (q : Nat) : Prop where
  len : q + x.L.length = j
  at_ : ∀ p c ls, x.L[p]? = some (c, ls) → (X (q + p)).c = c ∧ (X (q + p)).rows = ls
  pk : x.tag = 3 → (X q).st = 9
  past : ∀ i, i < q → (X i).st ≤ 7
  sp : 5 ≤ x.tag → q = 0
  pos : x.tag = 3 → 0 < x.L.length

section
variable [Payload] (P : Program) (ty : TypeId) (Wg C n LW : Nat) (Rw : List Int → Nat → Obj → Value → Prop) (Dr : (Nat → Prop) → (Nat → Prop) → Goroutine → World → Prop)

structure St (μ : Mu) (gs : Array Goroutine) (w : World) (t : Trace) (j : Nat) (X : Nat → Wk) (x : Mn) (ow : Nat → Ow) (a : Goroutine) (q : Nat) : Prop where
  ha : gs[0]? = some a
  mo : MOk P ty Wg C n LW Rw Dr j x a w
  base : Base P ty Wg C n LW Rw j gs w t X x.d
  own : OwnG Wg C LW j w X x.M x.S ow
  wg : WgAt ty Wg w (((cntA j X + pendA x.tag : Nat) : Int) * KK) 0
  lnk : Lnk j X x q
  num : j + x.todo.length = n
  mu : μ = (rank x + sumTo j (fun i => pot (X i)), x.f :: lst j (fun i => (X i).f), sumTo j (fun i => (X i).m))
def InvA (μ : Mu) (m : Machine) (t : Trace) : Prop :=
  ∃ (gs : Array Goroutine) (w : World) (sl : Option (Nat × Nat)) (j : Nat) (X : Nat → Wk) (x : Mn) (ow : Nat → Ow) (a : Goroutine) (q : Nat), m = crowd gs w sl ∧ St P ty Wg C n LW Rw Dr μ gs w t j X x ow a q

variable {P ty Wg C n LW Rw Dr}

section
variable {μ : Mu} {gs : Array Goroutine} {w w' : World} {sl : Option (Nat × Nat)} {t : Trace} {j q : Nat} {X : Nat → Wk} {x : Mn} {ow : Nat → Ow} {a g g' : Goroutine}

theorem St.at (h : St P ty Wg C n LW Rw Dr μ gs w t j X x ow a q) (d : Nat) : St P ty Wg C n LW Rw Dr μ gs (w.at d) t j X x ow a q :=
  ⟨h.ha, h.mo.rely (RM.at w d),
    ⟨h.base.size, fun i hi => let ⟨g, hg, hs⟩ := h.base.wk i hi; ⟨g, hg, hs.rely ⟨RM.at w d, RW.at w d⟩⟩, h.base.ct, h.base.low, h.base.norel, h.base.deaf0, h.base.deafW, h.base.rel, h.base.has, h.base.pay, h.base.ch, h.base.low7⟩,
    ⟨h.own.m, h.own.m0, h.own.s0, h.own.s, h.own.c, h.own.cc, h.own.wg, h.own.wg1, h.own.cst, h.own.fr, h.own.low, h.own.wk, h.own.out⟩, h.wg, h.lnk, h.num, h.mu⟩
theorem sumX (φ : Wk → Nat) {i : Nat} (hi : i < j) (y : Wk) : sumTo j (fun a => φ (upd X i y a)) + φ (X i) = sumTo j (fun a => φ (X a)) + φ y := sumTo_upd X y φ hi
theorem cnt_same {i : Nat} (hi : i < j) {y : Wk} (h : (5 ≤ y.st ↔ 5 ≤ (X i).st)) : cntA j (upd X i y) = cntA j X := by
  have := sumX (X := X) (fun x => if 5 ≤ x.st then 1 else 0) hi y
  unfold cntA
  by_cases e : 5 ≤ (X i).st
  · rw [if_pos e, if_pos (h.2 e)] at this; omega
  · rw [if_neg e, if_neg (fun h' => e (h.1 h'))] at this; omega
/-- The lane at which the starter is parked is open. -/
theorem St.open3 (h : St P ty Wg C n LW Rw Dr μ gs w t j X x ow a q) (h3 : x.tag = 3) {c : Nat} {ls : List (List Int)} {rest : List (Nat × List (List Int))} (hL : x.L = (c, ls) :: rest) : (X q).c = c ∧ q < j ∧ ∃ s, w.heap[c]? = some (.chan 0 #[] false s s false) := by
  have h0 := h.lnk.at_ 0 c ls (by rw [hL]; rfl)
  have hq : q < j := by have := h.lnk.len; rw [hL] at this; simp at this; omega
  obtain ⟨s, hs⟩ := h.base.ch q hq
  rw [h.lnk.pk h3] at hs
  refine ⟨h0.1, hq, s, ?_⟩
  rw [← h0.1]; exact hs
/-- A worker's own step that leaves its stage: the invariant. -/
theorem St.goW (h : St P ty Wg C n LW Rw Dr μ gs w t j X x ow a q) (hD : ∀ S M g w, Dr S M g w → g.status = .running) {i : Nat} (hi : i < j) (h9 : 7 ≤ (X i).st) (hd9 : (X i).d = 0) (hg : gs[i + 1]? = some g) {es : Array Event} (hs : stepG P false g w = .go g' w' es) (hp : Pvt ow (.wk i) w w')
    (hes : ∀ e ∈ es, EvM (X i).M (X i).S e) {x' : Wk} (hx : WOk P ty Wg C n LW Rw (i + 1) x' g' w') (hc : x'.c = (X i).c) (hr : x'.rows = (X i).rows) (hS : x'.S = (X i).S) (hM : ∀ b, x'.M b ↔ (X i).M b ∨ (w.heap.size ≤ b ∧ b < w'.heap.size)) (h9' : x'.st = (X i).st) (hd' : x'.d = 0)
    (hlt : Sub x'.f (X i).f) :
    ∃ m₁ ops μ', runT P (crowd gs w sl) (i + 1) = (.next m₁, ops) ∧ Lt3 μ' μ ∧ InvA P ty Wg C n LW Rw Dr μ' m₁ (t ++ ops) := by
  have hrun := runT_crowd_go (P := P) (sl := sl) (i := i + 1) hg (by simpa using hs)
  have hst : ∀ i', (upd X i x' i').st = (X i').st := fun i' => by
    by_cases e : i' = i
    · subst e; rw [upd_same, h9']
    · rw [upd_ne X x' e]
  have hcu : ∀ i', (upd X i x' i').c = (X i').c := fun i' => by
    by_cases e : i' = i
    · subst e; rw [upd_same, hc]
    · rw [upd_ne X x' e]
  have hru : ∀ i', (upd X i x' i').rows = (X i').rows := fun i' => by
    by_cases e : i' = i
    · subst e; rw [upd_same, hr]
    · rw [upd_ne X x' e]
  have kp : ∀ {b}, ow b ≠ .wk i → ow b ≠ .fr → w'.heap[b]? = w.heap[b]? := fun h1 h2 => h.own.pvtKeep hp h1 h2
  have e1 := sumX (X := X) pot hi x'
  have ep : pot x' = pot (X i) := by unfold pot; rw [h9', hr]
  refine ⟨_, _, _, hrun, ?_, _, w', sl, j, upd X i x', x, _, woken P g g' w' a, q, rfl, ?_, ?_, h.base.stepW h.own hi h9 hd9 hp hes hx hc hS hM h9' hd', h.own.newW hi hp.size hc hS hM, ?_, ⟨h.lnk.len, fun p c ls hp' => ?_, fun h3 => ?_, fun i' hi' => ?_, h.lnk.sp, h.lnk.pos⟩, h.num, rfl⟩
  · rw [h.mu]
    exact lt3_2 (by omega) (.tail (lst_lt (by show Sub (upd X i x' i).f _; rw [upd_same]; exact hlt) (fun k hk => by show (upd X i x' k).f = _; rw [upd_ne X x' hk]) hi))
  · rw [get_map_set _ _ _ _ (by omega), h.ha]; rfl
  · refine h.mo.wokenOpen hD (h.own.rm0 (fun b hb => kp (hb.elim (fun e => by rw [e]; exact Ow.noConfusion) (fun e => by rw [e]; exact Ow.noConfusion)) (hb.elim (fun e => by rw [e]; exact Ow.noConfusion) (fun e => by rw [e]; exact Ow.noConfusion))) hp.size (h.own.pvtLive Ow.noConfusion hp)) fun h3 c ls rest hL => ?_
    obtain ⟨hcq, hq, s, hch⟩ := h.open3 h3 hL
    have : ow c = .ln := by rw [← hcq]; exact h.own.c q hq
    exact ⟨_, _, _, _, _, (kp (by rw [this]; exact Ow.noConfusion) (by rw [this]; exact Ow.noConfusion)).trans hch⟩
  · rw [cnt_same hi (by rw [h9'])]
    exact h.wg.of_block (kp (by rw [h.own.wg]; exact Ow.noConfusion) (by rw [h.own.wg]; exact Ow.noConfusion))
  · rw [hcu, hru]; exact h.lnk.at_ p c ls hp'
  · rw [hst]; exact h.lnk.pk h3
  · rw [hst]; exact h.lnk.past i' hi'
end
end

end Go.Proofs.Ytkbfcaaihellfaa

/- Workers with lanes and their starter: a meeting on a lane. No program in sight. -/
namespace Go.Proofs.Ytkbfcaaihellfaa
open Go.Conc Go.ConcN
open Go.ConcR (KK wgBlock WgAt stA smA rd wr mk Payload Aside2 DC0 Bk g_of_ofEvents)
set_option linter.unusedVariables false
set_option linter.unusedSectionVars false

section
variable [Payload] {P : Program} {ty : TypeId} {Wg C n LW : Nat} {Rw : List Int → Nat → Obj → Value → Prop} {Dr : (Nat → Prop) → (Nat → Prop) → Goroutine → World → Prop}
variable {μ : Mu} {gs gs' : Array Goroutine} {w w' : World} {sl : Option (Nat × Nat)} {t : Trace} {j q : Nat} {X : Nat → Wk} {x : Mn} {ow : Nat → Ow} {a g g' : Goroutine}

theorem chan_get {w : World} {c cap s r b : Nat} {buf : Array Value} {cl tm : Bool} (h : b ≠ c) : (w.setChan c cap buf cl s r tm).heap[b]? = w.heap[b]? := by
  simp only [World.setChan]
  rw [Array.getElem?_setIfInBounds_ne (fun e => h e.symm)]
theorem chan_at {w : World} {c cap s r : Nat} {buf : Array Value} {cl tm : Bool} (h : c < w.heap.size) : (w.setChan c cap buf cl s r tm).heap[c]? = some (.chan cap buf cl s r tm) := by
  simp only [World.setChan]
  rw [Array.getElem?_setIfInBounds_self_of_lt h]
theorem chan_size {w : World} {c cap s r : Nat} {buf : Array Value} {cl tm : Bool} : (w.setChan c cap buf cl s r tm).heap.size = w.heap.size := by simp [World.setChan]

/-- Whose is what, where worker i's block r passes to the starter. -/
theorem OwnG.pass {M0 S0 : Nat → Prop} (O : OwnG Wg C LW j w X M0 S0 ow) (hsz : w'.heap.size = w.heap.size) {i r : Nat} (hi : i < j) (hr : (X i).M r) {x' : Wk} (hc : x'.c = (X i).c) (hS : x'.S = (X i).S) (hM : ∀ b, x'.M b ↔ (X i).M b ∧ b ≠ r) :
    OwnG Wg C LW j w' (upd X i x') (fun b => M0 b ∨ b = r) S0 (fun b => if b = r then .mn else ow b) := by
  have er := O.hm hr
  have old : ∀ {b}, (∀ i, ow b ≠ .wk i) → (if b = r then Ow.mn else ow b) = ow b := fun {b} h => if_neg fun e => h i (by rw [e, er])
  have hu : ∀ i' b, (upd X i x' i').S b → (X i').S b := fun i' b h => by
    by_cases e : i' = i
    · subst e; rw [upd_same, hS] at h; exact h
    · rwa [upd_ne X x' e] at h
  have hcu : ∀ i', (upd X i x' i').c = (X i').c := fun i' => by
    by_cases e : i' = i
    · subst e; rw [upd_same, hc]
    · rw [upd_ne X x' e]
  refine ⟨fun i' hi' b => ?_, fun b => ?_, fun b h => ?_, fun i' hi' b h => ?_, fun i' hi' => ?_, fun i' i'' h1 h2 h3 => ?_, ?_, fun b h => ?_, ?_, fun b => ?_, fun b h1 h2 => ?_, fun i' b h => ?_, fun i' hi' => ?_⟩
  · by_cases hb : b = r
    · subst hb
      rw [if_pos rfl]
      refine ⟨fun h => ?_, fun h => (by cases h)⟩
      by_cases e : i' = i
      · subst e; rw [upd_same, hM] at h; exact absurd rfl h.2
      · rw [upd_ne X x' e, O.m i' hi', er] at h; exact absurd (Ow.wk.inj h).symm e
    · rw [if_neg hb, ← O.m i' hi']
      by_cases e : i' = i
      · subst e; rw [upd_same, hM]; exact ⟨fun h => h.1, fun h => ⟨h, hb⟩⟩
      · rw [upd_ne X x' e]
  · by_cases hb : b = r
    · rw [if_pos hb]; exact ⟨fun _ => rfl, fun _ => .inr hb⟩
    · rw [if_neg hb, ← O.m0]; exact ⟨fun h => h.resolve_right hb, .inl⟩
  · have := O.s0 b h
    rw [old (by rw [this]; exact fun _ => Ow.noConfusion), this]
  · have := O.s i' hi' b (hu i' b h)
    rw [old (by rw [this.1]; exact fun _ => Ow.noConfusion)]; exact this
  · rw [hcu, old (by rw [O.c i' hi']; exact fun _ => Ow.noConfusion), O.c i' hi']
  · rw [hcu, hcu] at h3; exact O.cc i' i'' h1 h2 h3
  · rw [old (by rw [O.wg]; exact fun _ => Ow.noConfusion), O.wg]
  · by_cases hb : b = r
    · rw [if_pos hb] at h; cases h
    · rw [if_neg hb] at h; exact O.wg1 b h
  · rw [old (by rw [O.cst]; exact fun _ => Ow.noConfusion), O.cst]
  · rw [hsz, O.fr]
    by_cases hb : b = r
    · rw [if_pos hb, hb, er]; exact ⟨fun h => (by cases h), fun h => (by cases h)⟩
    · rw [if_neg hb]
  · have := O.low b h1 h2
    rw [old (by rw [this]; exact fun _ => Ow.noConfusion), this]
  · by_cases hb : b = r
    · rw [if_pos hb] at h; cases h
    · rw [if_neg hb] at h; exact O.wk i' b h
  · rw [upd_ne X x' (by omega)]; exact O.out i' hi'

/-- A MEETING on lane c: worker q (goroutine q + 1) hands its row r to the starter. -/
theorem St.meet (h : St P ty Wg C n LW Rw Dr μ gs w t j X x ow a q) (hq : q < j) {c r s : Nat} {xs : List Int} {l : List (List Int)} {rest : List (Nat × List (List Int))} {o : Obj} {v : Value} {g₂ gm : Goroutine}
    (htodo : x.todo = []) (hL : x.L = (c, xs :: l) :: rest) (htag : (x.tag = 3 ∧ (X q).st = 9) ∨ (x.tag = 4 ∧ (X q).st = 8)) (hd : x.d = 0) (hdq : (X q).d = 0)
    (hr : (X q).M r) (ho : w.heap[r]? = some o) (hv : Rw xs r o v) (hK : WScr P ty Wg C n LW Rw (X q).S c (q + 1) l (fun b => (X q).M b ∧ b ≠ r) (Go.Conc.served g₂ undef) w)
    (hm : ∀ r o v w', ¬ (x.M r ∨ x.S r) → Rw xs r o v → w'.heap[r]? = some o → (∀ b, x.M b ∨ x.S b → w'.heap[b]? = w.heap[b]?) → w.heap.size ≤ w'.heap.size → (WgLive ty Wg w → WgLive ty Wg w') →
      ∃ f, Way P true ty Wg x.S (RStop P ty Wg Rw x.S c l (AftLane P ty Wg Rw Dr x.S rest)) f (fun b => x.M b ∨ b = r) (Go.Conc.served gm (recvd true v true)) w')
    (hch : w.heap[c]? = some (.chan 0 #[] false s s false)) (hsz : gs'.size = gs.size) (h0 : gs'[0]? = some (Go.Conc.served gm (recvd true v true))) (hw : gs'[q + 1]? = some (Go.Conc.served g₂ undef)) (hoth : ∀ b, b ≠ 0 → b ≠ q + 1 → gs'[b]? = gs[b]?)
    (fh : FuncId) (ph : String) (fj : FuncId) (pj : String) :
    ∃ μ', Lt3 μ' μ ∧ InvA P ty Wg C n LW Rw Dr μ' (crowd gs' (w.setChan c 0 #[] false (s + 1) (s + 1) false) sl) (t ++ met (q + 1) 0 fh ph fj pj c s 0) := by
  have B := h.base
  have O := h.own
  obtain ⟨hcq, hrows⟩ := h.lnk.at_ 0 c (xs :: l) (by rw [hL]; rfl)
  simp only [Nat.add_zero] at hcq hrows
  have oc : ow c = .ln := by rw [← hcq]; exact O.c q hq
  have clt : c < w.heap.size := O.lt (by rw [oc]; exact Ow.noConfusion)
  have er := O.hm hr
  have kp : ∀ {b}, ow b ≠ .ln → (w.setChan c 0 #[] false (s + 1) (s + 1) false).heap[b]? = w.heap[b]? := fun {b} hb => chan_get fun e => hb (by rw [e, oc])
  have hC := kp (b := C) (by rw [O.cst]; exact Ow.noConfusion)
  have hWg := kp (b := Wg) (by rw [O.wg]; exact Ow.noConfusion)
  have hlive : WgLive ty Wg w → WgLive ty Wg (w.setChan c 0 #[] false (s + 1) (s + 1) false) := live_of hWg
  -- the starter
  obtain ⟨f0, hf0⟩ := hm r o v (w.setChan c 0 #[] false (s + 1) (s + 1) false) (fun e => e.elim (fun e => by rw [(O.m0 r).1 e] at er; cases er) (fun e => by rw [O.s0 r e] at er; cases er)) hv ((kp (by rw [er]; exact Ow.noConfusion)).trans ho) (fun b hb => kp (hb.elim (fun hb => by rw [(O.m0 b).1 hb]; exact Ow.noConfusion) (fun hb => by rw [O.s0 b hb]; exact Ow.noConfusion))) (by rw [chan_size]; exact Nat.le_refl _) hlive
  -- the worker
  obtain ⟨f1, hf1⟩ := (WScr.rely P ty Wg C n LW Rw hK (w₁ := w.setChan c 0 #[] false (s + 1) (s + 1) false) ⟨fun b hb => kp (hb.elim (fun hb => by rw [O.hm hb.1]; exact Ow.noConfusion) (fun hb => by rw [O.hs hb]; exact Ow.noConfusion)), by rw [chan_size]; exact Nat.le_refl _, hlive⟩).way
  have hx' : ∀ (x' : Wk), x' = ⟨l, c, fun b => (X q).M b ∧ b ≠ r, (X q).S, 9, f1, 0, 0⟩ → ∃ μ', Lt3 μ' μ ∧ InvA P ty Wg C n LW Rw Dr μ' (crowd gs' (w.setChan c 0 #[] false (s + 1) (s + 1) false) sl) (t ++ met (q + 1) 0 fh ph fj pj c s 0) := by
    intro x' ex
    have xc : x'.c = (X q).c := by rw [ex]; exact hcq.symm
    have xS : x'.S = (X q).S := by rw [ex]
    have xM : ∀ b, x'.M b ↔ (X q).M b ∧ b ≠ r := fun b => by rw [ex]
    have x9 : x'.st = 9 := by rw [ex]
    have xr : x'.rows = l := by rw [ex]
    have s89 : (X q).st = 9 ∨ (X q).st = 8 := htag.imp (·.2) (·.2)
    have hcu : ∀ i', (upd X q x' i').c = (X i').c := fun i' => by
      by_cases e : i' = q
      · subst e; rw [upd_same, xc]
      · rw [upd_ne X x' e]
    have e1 := sumX (X := X) pot hq x'
    have p1 : pot x' = 15 + 4 * l.length := by unfold pot; rw [x9, xr]; simp
    have p2 : (X q).st = 9 → pot (X q) = 15 + 4 * (l.length + 1) := fun e => by unfold pot; rw [e, hrows]; simp
    have p3 : (X q).st = 8 → pot (X q) = 13 + 4 * (l.length + 1) := fun e => by unfold pot; rw [e, hrows]; simp
    have quiet : ∀ g, Deaf (t ++ met (q + 1) 0 fh ph fj pj c s 0) g = Deaf t g := fun g => Deaf_quiet (met_quiet (q + 1) 0 fh ph fj pj c s 0 g)
    refine ⟨(rank ⟨[], (c, l) :: rest, x.S, fun b => x.M b ∨ b = r, 4, f0, 0⟩ + sumTo j (fun i => pot (upd X q x' i)), f0 :: lst j (fun i => (upd X q x' i).f), sumTo j (fun i => (upd X q x' i).m)), ?_, gs', _, sl, j, upd X q x',
      ⟨[], (c, l) :: rest, x.S, fun b => x.M b ∨ b = r, 4, f0, 0⟩, _, _, q, rfl, h0, .rg hf0, ?_, O.pass (by rw [chan_size]) hq hr xc xS xM, ?_, ⟨?_, fun p c' ls' hp => ?_, fun h3 => ?_, fun i hi => ?_, fun h5 => ?_, fun h3 => ?_⟩, ?_, rfl⟩
    · rw [h.mu]
      refine lt3_1 ?_
      have er1 : rank ⟨[], (c, l) :: rest, x.S, fun b => x.M b ∨ b = r, 4, f0, 0⟩ = 4 * (rest.length + 1) + 4 := by simp [rank]
      have er2 : rank x = 4 * (rest.length + 1) + x.tag := by unfold rank; rw [htodo, hL]; simp
      rw [er1, er2]
      rcases htag with ⟨h3, h9⟩ | ⟨h4, h8⟩
      · have := p2 h9; omega
      · have := p3 h8; omega
    · -- Base
      have ct1 := ct_give B.ct (k := q + 1) (by omega) (by omega) (by rw [B.deaf0, hd]) (by rw [B.deafW q hq, hdq]) O.apart (fun l => l.isMemory = true ∧ blk l = r) (fun l hl => ⟨by omega, hl.1, by rw [hl.2]; exact hr⟩)
        (Own' := OwnF (upd X q x')) (fun k' l' => by
          unfold OwnF
          by_cases e : k' - 1 = q
          · rw [e, upd_same, xM]
            exact ⟨fun hh => ⟨⟨hh.1, hh.2.1, hh.2.2.1⟩, fun h2 => hh.2.2.2 h2.2⟩, fun hh => ⟨hh.1.1, hh.1.2.1, hh.1.2.2, fun e2 => hh.2 ⟨hh.1.2.1, e2⟩⟩⟩
          · rw [upd_ne X x' e]
            refine ⟨fun hh => ⟨hh, fun h2 => ?_⟩, fun hh => hh.1⟩
            have := O.hm hh.2.2
            rw [h2.2, er] at this
            exact e (Ow.wk.inj this).symm) fh ph fj pj c s 0
      have er' : RdF (upd X q x') = RdF X := by
        funext k l'
        unfold RdF
        by_cases e : k - 1 = q
        · rw [e, upd_same, xS, xc]
        · rw [upd_ne X x' e]
      refine ⟨by rw [hsz, B.size], fun i hi => ?_, by rw [er']; exact ct1, ?_, ?_, by rw [quiet, B.deaf0, hd], fun i hi => ?_, fun i hi hs => ?_, fun i hi => ?_, (let ⟨cs, h1, h2⟩ := B.pay; ⟨cs, hC.trans h1, h2⟩), fun i hi => ?_, fun i hi => ?_⟩
      · by_cases e : i = q
        · subst e
          refine ⟨_, hw, ?_⟩
          rw [upd_same, ex]; exact .way hf1
        · obtain ⟨y, hy, hsy⟩ := B.wk i hi
          refine ⟨y, by rw [hoth _ (by omega) (by omega)]; exact hy, ?_⟩
          rw [upd_ne X x' e]
          exact hsy.rely (O.ra hi (fun b hb => kp (hb.elim (fun hb => by rw [hb]; exact Ow.noConfusion) (fun hb => by rw [hb]; exact Ow.noConfusion))) (by rw [chan_size]; exact Nat.le_refl _) hlive)
      · intro i' a' ha' hm'
        rw [chan_size]
        exact B.low i' a' (touch_old (met_mute _ _ _ _ _ _ _ _ _) ha') hm'
      · refine B.norel.app fun op hop => ?_
        simp only [met, List.mem_toArray, List.mem_cons, List.not_mem_nil, or_false] at hop
        rcases hop with rfl | rfl | rfl | rfl <;> simp
      · rw [quiet, B.deafW i hi]
        by_cases e : i = q
        · subst e; rw [upd_same, ex, hdq]
        · rw [upd_ne X x' e]
      · have hne : i ≠ q := fun e => by subst e; rw [upd_same, x9] at hs; omega
        rw [upd_ne X x' hne] at hs
        obtain ⟨r', hr'⟩ := B.rel i hi hs
        refine ⟨r', hr'.app fun k hk hg => fun hcn => ?_⟩
        obtain ⟨tx, htx, _⟩ := hcn
        obtain ⟨y, hy, hya⟩ := touch_of htx
        rcases getElem?_append_cases hy with ⟨hlt, _⟩ | ⟨_, hyu⟩
        · omega
        · rw [met_mute _ _ _ _ _ _ _ _ _ y hyu] at hya; cases hya
      · rw [hcu]; exact (cell_of_block hC i).trans (B.has i hi)
      · rw [hcu]
        by_cases e : i = q
        · subst e; rw [upd_same, x9, hcq]; exact ⟨s + 1, chan_at clt⟩
        · rw [upd_ne X x' e]
          obtain ⟨s', hs'⟩ := B.ch i hi
          exact ⟨s', (chan_get fun e2 => e (O.cc i q hi hq (e2.trans hcq.symm))).trans hs'⟩
      · by_cases e : i = q
        · subst e; rw [upd_same, x9]; exact .inl rfl
        · rw [upd_ne X x' e]; exact B.low7 i hi
    · rw [cnt_same hq (by rw [x9]; rcases s89 with e | e <;> rw [e] <;> omega)]
      have : pendA x.tag = pendA 4 := by rcases htag with ⟨h3, _⟩ | ⟨h4, _⟩ <;> simp_all [pendA]
      have hwg := h.wg
      rw [this] at hwg
      exact hwg.of_block hWg
    · have := h.lnk.len; rw [hL] at this; simpa using this
    · cases p with
      | zero => simp at hp; obtain ⟨rfl, rfl⟩ := hp; rw [Nat.add_zero, upd_same, ex]; exact ⟨rfl, rfl⟩
      | succ p => rw [upd_ne X x' (by omega)]; exact h.lnk.at_ (p + 1) c' ls' (by rw [hL]; simpa using hp)
    · simp at h3
    · rw [upd_ne X x' (by omega)]; exact h.lnk.past i hi
    · simp at h5
    · simp
    · have := h.num; rw [htodo] at this; simpa using this
  exact hx' _ rfl
end

end Go.Proofs.Ytkbfcaaihellfaa
