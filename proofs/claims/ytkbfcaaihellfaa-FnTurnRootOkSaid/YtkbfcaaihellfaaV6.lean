/- Steps on the way to the law; each part says what it proves. -/
import Derived.Test.YtkbfcaaihellfaaV5

set_option linter.unusedSimpArgs false

/- Workers with lanes and their starter: a worker behind the close of its lane. No program in sight. -/
namespace Go.Proofs.Ytkbfcaaihellfaa
open Go.Conc Go.ConcN
open Go.ConcR (KK wgBlock WgAt stA smA rd wr mk Payload Aside2 DC0 Bk g_of_ofEvents)
set_option linter.unusedVariables false
set_option linter.unusedSectionVars false

section
variable [Payload] {P : Program} {ty : TypeId} {Wg C n LW : Nat} {Rw : List Int → Nat → Obj → Value → Prop} {Dr : (Nat → Prop) → (Nat → Prop) → Goroutine → World → Prop}
variable {μ : Mu} {gs gs' : Array Goroutine} {w w' : World} {sl : Option (Nat × Nat)} {t : Trace} {j q : Nat} {X : Nat → Wk} {x : Mn} {ow : Nat → Ow} {a g g' : Goroutine}

def Wk.to (y : Wk) (s m d : Nat) : Wk := ⟨y.rows, y.c, y.M, y.S, s, y.f, m, d⟩
theorem pot_to (y : Wk) (s m d : Nat) (h : s ≤ 7) : pot (y.to s m d) = s := by
  show (if s = 9 then _ else if s = 8 then _ else s) = s
  rw [if_neg (by omega), if_neg (by omega)]
def cnt1 (y : Wk) : Nat := if 5 ≤ y.st then 1 else 0
theorem OwnG.okW_low {M0 S0 : Nat → Prop} (O : OwnG Wg C LW j w X M0 S0 ow) {k : Nat} {u : Trace} (k1 : 1 ≤ k) (kj : k ≤ j) (hu : ∀ op ∈ u, OkW (ShN Wg) (OwnF X) (RdF X) k op) : ∀ op ∈ u, ∀ y, op.act.touch? = some y → y.loc.isMemory = true → blk y.loc < w.heap.size := by
  intro op hop y hy _
  rcases (hu op hop).2 y hy with ⟨h, _⟩ | h | ⟨h, _⟩
  · rw [shn_blk h]; exact O.lt (by rw [O.wg]; exact Ow.noConfusion)
  · exact O.lt (by rw [O.hm h.2.2]; exact Ow.noConfusion)
  · rcases h.2 with ⟨_, h⟩ | h
    · exact O.lt (by rw [O.hs h]; exact Ow.noConfusion)
    · rw [h]; exact O.lt (by rw [show blk (.obj (X (k - 1)).c) = (X (k - 1)).c from rfl, O.c (k - 1) (by omega)]; exact Ow.noConfusion)
theorem fams {i : Nat} {x' : Wk} (hc : x'.c = (X i).c) (hS : x'.S = (X i).S) (hM : x'.M = (X i).M) : OwnF (upd X i x') = OwnF X ∧ RdF (upd X i x') = RdF X := by
  constructor
  · funext k l
    unfold OwnF
    by_cases e : k - 1 = i
    · rw [e, upd_same, hM]
    · rw [upd_ne X x' e]
  · funext k l
    unfold RdF
    by_cases e : k - 1 = i
    · rw [e, upd_same, hS, hc]
    · rw [upd_ne X x' e]
theorem OwnG.same {M0 S0 : Nat → Prop} (O : OwnG Wg C LW j w X M0 S0 ow) (hsz : w'.heap.size = w.heap.size) {i : Nat} (hi : i < j) {x' : Wk} (hc : x'.c = (X i).c) (hS : x'.S = (X i).S) (hM : x'.M = (X i).M) : OwnG Wg C LW j w' (upd X i x') M0 S0 ow := by
  have hm : ∀ i', (upd X i x' i').M = (X i').M := fun i' => by
    by_cases e : i' = i
    · subst e; rw [upd_same, hM]
    · rw [upd_ne X x' e]
  have hs : ∀ i', (upd X i x' i').S = (X i').S := fun i' => by
    by_cases e : i' = i
    · subst e; rw [upd_same, hS]
    · rw [upd_ne X x' e]
  have hcu : ∀ i', (upd X i x' i').c = (X i').c := fun i' => by
    by_cases e : i' = i
    · subst e; rw [upd_same, hc]
    · rw [upd_ne X x' e]
  exact ⟨fun i' h b => by rw [hm]; exact O.m i' h b, O.m0, O.s0, fun i' h b => by rw [hs]; exact O.s i' h b, fun i' h => by rw [hcu]; exact O.c i' h, fun i' i'' h1 h2 => by rw [hcu, hcu]; exact O.cc i' i'' h1 h2, O.wg, O.wg1, O.cst, fun b => by rw [hsz]; exact O.fr b, O.low, O.wk,
    fun i' h => by rw [hm, hs, hcu]; exact O.out i' h⟩
/-- A worker's step by which at most one shared block turns (the group's, or its own lane at the close); its sets stand. -/
theorem St.goT (h : St P ty Wg C n LW Rw Dr μ gs w t j X x ow a q) {i B0 : Nat} (hi : i < j) (hg : gs[i + 1]? = some g) {es : Array Event} (hs : stepG P false g w = .go g' w' es)
    (hsz : w'.heap.size = w.heap.size) (hB : B0 = Wg ∨ B0 = (X i).c) (hblk : ∀ b, b ≠ B0 → w'.heap[b]? = w.heap[b]?) {x' : Wk} (hc : x'.c = (X i).c) (hr : x'.rows = (X i).rows) (hS : x'.S = (X i).S) (hM : x'.M = (X i).M)
    (h7 : x'.st ≤ 7) (hcases : x'.st = 7 ∨ x'.st = 6 ∨ x'.st = 5 ∨ x'.st = 1) (hch : ∃ s, w'.heap[(X i).c]? = some (.chan 0 #[] true s s false)) (hx : WOk P ty Wg C n LW Rw (i + 1) x' g' w')
    (hok : ∀ op ∈ MemOp.ofEvents (i + 1) g.frame.fn g.frame.place es, OkW (ShN Wg) (OwnF X) (RdF X) (i + 1) op) (hnr : ∀ op ∈ MemOp.ofEvents (i + 1) g.frame.fn g.frame.place es, op.act ≠ .mark (.release (stA Wg))) (hdf : deafBehind (X i).d es = x'.d)
    (hrel : x'.st ≤ 6 → ∃ r, RelBy (stA Wg) (t ++ MemOp.ofEvents (i + 1) g.frame.fn g.frame.place es) (i + 1) r)
    (hwg : ∃ v : Int, v = (((cntA j (upd X i x') + pendA x.tag : Nat) : Int) * KK) ∧ WgAt ty Wg w' v 0)
    {y : Mn} (hy : y.todo = x.todo ∧ y.L = x.L ∧ y.S = x.S ∧ y.M = x.M ∧ y.d = x.d ∧ pendA y.tag = pendA x.tag ∧ (y.tag = 3 → x.tag = 3 ∧ (X q).st = 9 ∧ q ≠ i) ∧ (5 ≤ y.tag → 5 ≤ x.tag)) (hmo : MOk P ty Wg C n LW Rw Dr j y (woken P g g' w' a) w')
    (hμ : rank y + pot x' < rank x + pot (X i) ∨ (rank y + pot x' = rank x + pot (X i) ∧ y.f = x.f ∧ x'.f = (X i).f ∧ x'.m < (X i).m)) :
    ∃ m₁ ops μ', runT P (crowd gs w sl) (i + 1) = (.next m₁, ops) ∧ Lt3 μ' μ ∧ InvA P ty Wg C n LW Rw Dr μ' m₁ (t ++ ops) := by
  have hrun := runT_crowd_go (P := P) (sl := sl) (i := i + 1) hg (by simpa using hs)
  have B := h.base
  have O := h.own
  have hcu : ∀ i', (upd X i x' i').c = (X i').c := fun i' => by
    by_cases e : i' = i
    · subst e; rw [upd_same, hc]
    · rw [upd_ne X x' e]
  have hru : ∀ i', (upd X i x' i').rows = (X i').rows := fun i' => by
    by_cases e : i' = i
    · subst e; rw [upd_same, hr]
    · rw [upd_ne X x' e]
  have ob : ow B0 = .wg ∨ ow B0 = .ln := by
    rcases hB with e | e
    · rw [e]; exact .inl O.wg
    · rw [e]; exact .inr (O.c i hi)
  have kp : ∀ {b}, ow b ≠ .wg → ow b ≠ .ln → w'.heap[b]? = w.heap[b]? := fun {b} h1 h2 => hblk b fun e => by subst e; rcases ob with e | e; exact h1 e; exact h2 e
  have hC := kp (b := C) (by rw [O.cst]; exact Ow.noConfusion) (by rw [O.cst]; exact Ow.noConfusion)
  obtain ⟨v, hv, hwg⟩ := hwg
  have hlive : WgLive ty Wg w → WgLive ty Wg w' := fun _ => ⟨_, _, hwg⟩
  obtain ⟨hy1, hy2, hy3, hy4, hy5, hy6, hy7, hy8⟩ := hy
  obtain ⟨f1, f2⟩ := fams (X := X) hc hS hM
  have e1 := sumX (X := X) pot hi x'
  have e3 := sumX (X := X) Wk.m hi x'
  have chOth : ∀ i', i' < j → i' ≠ i → w'.heap[(X i').c]? = w.heap[(X i').c]? := fun i' hi' hne => hblk _ fun e => by
    rcases hB with e' | e'
    · have := O.c i' hi'; rw [e, e', O.wg] at this; cases this
    · exact hne (O.cc i' i hi' hi (e.trans e'))
  refine ⟨_, _, (rank y + sumTo j (fun b => pot (upd X i x' b)), y.f :: lst j (fun b => (upd X i x' b).f), sumTo j (fun b => (upd X i x' b).m)), hrun, ?_, _, w', sl, j, upd X i x', y, ow, woken P g g' w' a, q, rfl, ?_, hmo, ?_, by rw [hy3, hy4]; exact O.same hsz hi hc hS hM, by rw [hy6, ← hv]; exact hwg, ⟨by rw [hy2]; exact h.lnk.len, fun p c ls hp => ?_, fun h3 => ?_, fun i' hi' => ?_, fun h5 => h.lnk.sp (hy8 h5), fun h3 => by rw [hy2]; exact h.lnk.pos (hy7 h3).1⟩, by rw [hy1]; exact h.num, rfl⟩
  · rw [h.mu]
    rcases hμ with h1 | ⟨h1, h2, h3, h4⟩
    · exact lt3_1 (by omega)
    · refine lt3_3 (by omega) ?_ (by omega)
      rw [h2, lst_congr (φ := fun b => (upd X i x' b).f) (ψ := fun b => (X b).f) fun k _ => ?_]
      by_cases e : k = i
      · subst e; show (upd X k x' k).f = _; rw [upd_same, h3]
      · show (upd X i x' k).f = _; rw [upd_ne X x' e]
  · rw [get_map_set _ _ _ _ (by omega), h.ha]; rfl
  · refine ⟨by simp [B.size], fun i' hi' => ?_, by rw [f1, f2]; exact B.ct.appW O.apart (by omega) (by omega) hok, low_app B.low (by rw [hsz]; exact Nat.le_refl _) (by rw [hsz]; exact O.okW_low (by omega) (by omega) hok), B.norel.app hnr, by rw [Deaf_other t (by omega) _ g_of_ofEvents, B.deaf0, hy5], fun i' hi' => ?_, fun i' hi' hst => ?_, fun i' hi' => by rw [hcu]; exact (cell_of_block hC i').trans (B.has i' hi'),
      (let ⟨cs, h1, h2⟩ := B.pay; ⟨cs, hC.trans h1, h2⟩), fun i' hi' => ?_, fun i' hi' => ?_⟩
    · by_cases e : i' = i
      · subst e
        exact ⟨g', get_map_set_same _ _ _ (by rw [B.size]; omega), by rw [upd_same]; exact hx⟩
      · rw [upd_ne X x' e]
        exact B.others O hi' (by omega) (O.ra hi' (fun b hb => kp (hb.elim (fun e => by rw [e]; exact Ow.noConfusion) (fun e => by rw [e]; exact Ow.noConfusion)) (hb.elim (fun e => by rw [e]; exact Ow.noConfusion) (fun e => by rw [e]; exact Ow.noConfusion))) (by rw [hsz]; exact Nat.le_refl _) hlive) (chOth i' hi' e)
    · by_cases e : i' = i
      · subst e; rw [Deaf_own, B.deafW i' hi', upd_same]; exact hdf
      · rw [Deaf_other t (by omega) _ g_of_ofEvents, B.deafW i' hi', upd_ne X x' e]
    · by_cases e : i' = i
      · subst e; rw [upd_same] at hst; exact hrel hst
      · rw [upd_ne X x' e] at hst
        obtain ⟨r, hr⟩ := B.rel i' hi' hst
        exact ⟨r, hr.appOther g_of_ofEvents (by omega)⟩
    · rw [hcu]
      by_cases e : i' = i
      · subst e; rw [upd_same, show decide (x'.st ≤ 7) = true from decide_eq_true h7]; exact hch
      · rw [upd_ne X x' e, chOth i' hi' e]; exact B.ch i' hi'
    · by_cases e : i' = i
      · subst e; rw [upd_same]; omega
      · rw [upd_ne X x' e]; exact B.low7 i' hi'
  · rw [hcu, hru]; exact h.lnk.at_ p c ls (by rw [← hy2]; exact hp)
  · obtain ⟨_, h9, hne⟩ := hy7 h3
    rw [upd_ne X x' hne]; exact h9
  · by_cases e : i' = i
    · subst e; rw [upd_same]; exact h7
    · rw [upd_ne X x' e]; exact h.lnk.past i' hi'

/-- The starter where another's step turns neither its blocks nor the lane at which it is parked. -/
theorem St.mainStands (h : St P ty Wg C n LW Rw Dr μ gs w t j X x ow a q) (hD : ∀ S M g w, Dr S M g w → g.status = .running) {B0 : Nat} (hsz : w'.heap.size = w.heap.size) (ob : ow B0 = .wg ∨ ow B0 = .ln) (hblk : ∀ b, b ≠ B0 → w'.heap[b]? = w.heap[b]?) (hlive : WgLive ty Wg w → WgLive ty Wg w')
    (h3 : x.tag = 3 → (X q).c ≠ B0) : MOk P ty Wg C n LW Rw Dr j x (woken P g g' w' a) w' := by
  have kp : ∀ {b}, ow b ≠ .wg → ow b ≠ .ln → w'.heap[b]? = w.heap[b]? := fun {b} h1 h2 => hblk b fun e => by subst e; rcases ob with e | e; exact h1 e; exact h2 e
  refine h.mo.wokenOpen hD (h.own.rm0 (fun b hb => kp (hb.elim (fun e => by rw [e]; exact Ow.noConfusion) (fun e => by rw [e]; exact Ow.noConfusion)) (hb.elim (fun e => by rw [e]; exact Ow.noConfusion) (fun e => by rw [e]; exact Ow.noConfusion))) (by rw [hsz]; exact Nat.le_refl _) hlive) fun h3' c ls rest hL => ?_
  obtain ⟨hcq, hq, s, hch⟩ := h.open3 h3' hL
  exact ⟨_, _, _, _, _, (hblk c (by rw [← hcq]; exact h3 h3')).trans hch⟩

/-- WHATEVER STEP OF A WORKER's BEHIND THE CLOSE. -/
theorem St.tail (h : St P ty Wg C n LW Rw Dr μ gs w t j X x ow a q) (hD : ∀ S M g w, Dr S M g w → g.status = .running) (hn : n < 2147483647) {i : Nat} (hi : i < j) (hg : gs[i + 1]? = some g) (hrun : g.status = .running) (h7 : (X i).st ≤ 7) :
    ∃ m₁ ops μ', runT P (crowd gs w sl) (i + 1) = (.next m₁, ops) ∧ Lt3 μ' μ ∧ InvA P ty Wg C n LW Rw Dr μ' m₁ (t ++ ops) := by
  have B := h.base
  have O := h.own
  obtain ⟨g₁, hg₁, hs⟩ := B.wk i hi
  obtain rfl : g = g₁ := by rw [hg] at hg₁; exact Option.some.inj hg₁
  have hdk : Deaf t (i + 1) = (X i).d := B.deafW i hi
  have hq3 : x.tag = 3 → (X q).st = 9 ∧ q ≠ i := fun h3 => ⟨h.lnk.pk h3, fun e => by have := h.lnk.pk h3; rw [e] at this; omega⟩
  have hch := B.ch i hi
  rw [show decide ((X i).st ≤ 7) = true from decide_eq_true h7] at hch
  have cWg : (X i).c ≠ Wg := fun e => by have := O.c i hi; rw [e, O.wg] at this; cases this
  -- a step by which at most the group's block turns
  have book : ∀ {g' : Goroutine} {w' : World} {es : Array Event} {s' m' dd' v' : Nat}, stepG P false g w = .go g' w' es → Aside Wg w w' → v' = cntA j (upd X i ((X i).to s' m' (dd'))) + pendA x.tag → WgAt ty Wg w' ((v' : Int) * KK) 0 →
      (∀ op ∈ MemOp.ofEvents (i + 1) g.frame.fn g.frame.place es, OkW (ShN Wg) (OwnF X) (RdF X) (i + 1) op) → (∀ e ∈ es, e.loc ≠ .mark (.release (stA Wg))) → deafBehind (X i).d es = dd' → (s' ≤ 6 → ∃ r, RelBy (stA Wg) (t ++ MemOp.ofEvents (i + 1) g.frame.fn g.frame.place es) (i + 1) r) →
      WOk P ty Wg C n LW Rw (i + 1) ((X i).to s' m' (dd')) g' w' → (s' = 7 ∨ s' = 6 ∨ s' = 5 ∨ s' = 1) → (s' < (X i).st ∨ (s' = (X i).st ∧ m' < (X i).m)) →
      ∃ m₁ ops μ', runT P (crowd gs w sl) (i + 1) = (.next m₁, ops) ∧ Lt3 μ' μ ∧ InvA P ty Wg C n LW Rw Dr μ' m₁ (t ++ ops) := by
    intro g' w' es s' m' dd' v' hgo hAs hv' hwg' hok hnr hdf hrel hx hst hlt
    have hp : pot (X i) = (X i).st := by unfold pot; rw [if_neg (by omega), if_neg (by omega)]
    have hp' : pot ((X i).to s' m' (dd')) = s' := pot_to _ _ _ _ (by omega)
    refine h.goT hi hg hgo (x' := (X i).to s' m' dd') hAs.size (.inl rfl) hAs.block rfl rfl rfl rfl (by show s' ≤ 7; omega) hst (by obtain ⟨s, hs⟩ := hch; exact ⟨s, (hAs.block _ cWg).trans hs⟩) hx hok (norel_of hnr) hdf hrel ⟨_, by rw [← hv'], hwg'⟩
      (y := x) ⟨rfl, rfl, rfl, rfl, rfl, rfl, fun h3 => ⟨h3, hq3 h3⟩, id⟩ (h.mainStands hD hAs.size (.inl O.wg) hAs.block (fun _ => ⟨_, _, hwg'⟩) fun h3 e => ?_) ?_
    · have := O.c q (by have := h.lnk.len; have := h.lnk.pos h3; omega); rw [e, O.wg] at this; cases this
    · rw [hp, hp']
      rcases hlt with h1 | ⟨h1, h2⟩
      · exact .inl (by omega)
      · exact .inr ⟨by omega, rfl, rfl, by show m' < (X i).m; omega⟩
  have same : ∀ {s' m' dd' : Nat}, (5 ≤ s' ↔ 5 ≤ (X i).st) → cntA j X + pendA x.tag = cntA j (upd X i ((X i).to s' m' (dd'))) + pendA x.tag := fun hs' => by rw [cnt_same hi hs']
  have hwgN := h.wg
  generalize hX : X i = y at hs
  cases hs with
  | way _ => rw [hX] at h7; simp at h7
  | park => rw [hX] at h7; simp at h7
  | tail7 hgs =>
    rcases Goes.cases hgs with hstop | ⟨m', rfl, hstep⟩
    · obtain ⟨_, hhas, g', hgo, m₂, hk⟩ := hstop w (RW.refl w)
      refine book (s' := 6) (m' := m₂) (dd' := 0) hgo (.refl Wg w) (same (by rw [hX]; simp)) hwgN (okW_none (by intro e he; simp at he; subst he; rfl)) (by intro e he; simp at he; subst he; simp [Go.ConcR.mk]) (by rw [hX]; rfl) (fun _ => ⟨t.size, RelBy.new (by rw [hdk, hX]) _ _⟩) ?_ (by omega) (.inl (by rw [hX]; simp))
      rw [hX]; exact .tail (by omega) (.k1 hk)
    · obtain ⟨g', w', es, hgo, ⟨e1, e2⟩, hg'⟩ := hstep w (RW.refl w)
      rw [e1, e2] at hgo
      rw [e1] at hg'
      refine book (s' := 7) (m' := m') (dd' := 0) hgo (.refl Wg w) (same (by rw [hX])) hwgN (okW_none (by simp)) (by simp) (by rw [hX]; rfl) (fun h => by omega) ?_ (by omega) (.inr ⟨by rw [hX], by rw [hX]; simp⟩)
      rw [hX]; exact .tail7 hg'
  | tail h6 hsit =>
    rename_i s m d
    have hst : (X i).st = s := by rw [hX]
    have hm : (X i).m = m := by rw [hX]
    have hdd : (X i).d = d := by rw [hX]
    obtain ⟨rr, hrr⟩ := B.rel i hi (by omega)
    have idle : ∀ {g' : Goroutine} {m' : Nat}, stepG P false g w = .go g' w #[] → (s = 6 ∨ s = 5 ∨ s = 1) → m = m' + 1 → WSit P ty Wg C n no no LW (i + 1) (.chan (some (X i).c)) s m' d g' w →
        ∃ m₁ ops μ', runT P (crowd gs w sl) (i + 1) = (.next m₁, ops) ∧ Lt3 μ' μ ∧ InvA P ty Wg C n LW Rw Dr μ' m₁ (t ++ ops) := by
      intro g' m' hgo hs3 hmm hsit'
      refine book (s' := s) (m' := m') (dd' := d) hgo (.refl Wg w) (same (by rw [hst])) hwgN (okW_none (by simp)) (by simp) (by rw [hdd]; rfl) (fun _ => ⟨rr, by simpa using hrr.appOwn g.frame.fn g.frame.place #[] (fun j x hx => by simp at hx)⟩) ?_ (by omega) (.inr ⟨hst.symm, by omega⟩)
      rw [hX] at hsit' ⊢; exact .tail h6 hsit'
    have low7 := B.low7 i hi
    rw [hst] at low7
    cases hsit with
    | r0 _ => omega
    | d2 _ => omega
    | d3 _ => omega
    | d4 _ => omega
    | k1 hgs =>
      rcases Goes.cases hgs with hstop | ⟨m', rfl, hstep⟩
      · obtain ⟨_, g', hgo, m₂, hk⟩ := hstop w (RW.refl w)
        have hbk : ∀ e ∈ (#[Go.ConcR.mk Mark.disable] : Array Event), Bk Wg e := by intro e he; simp at he; subst he; exact .inl rfl
        refine book (s' := 5) (m' := m₂) (dd' := 1) hgo (.refl Wg w) (same (by rw [hst]; simp)) hwgN (okW_of_Bk hbk) (norel_of_Bk hbk) (by rw [hdd]; rfl) (fun _ => ⟨rr, hrr.book (hdk.trans hdd) _ _ hbk (by intro jx e he; exact .inl (by have := Array.mem_of_getElem? he; simp at this; subst this; rfl))⟩) ?_ (by omega) (.inl (by omega))
        rw [hX]; exact .tail (by omega) (.d1 hk)
      · obtain ⟨g', w', es, hgo, ⟨e1, e2⟩, hg'⟩ := hstep w (RW.refl w)
        rw [e1, e2] at hgo
        rw [e1] at hg'
        exact idle hgo (.inl rfl) rfl (by rw [hX]; exact .k1 hg')
    | d1 hgs =>
      rcases Goes.cases hgs with hstop | ⟨m', rfl, hstep⟩
      · obtain ⟨_, hall⟩ := hstop w (RW.refl w)
        have bk2 : ∀ e ∈ #[rd (stA Wg), wr (stA Wg)], Bk Wg e := by intro e he; simp at he; rcases he with rfl | rfl <;> exact bk_cell _ _ rfl
        have df2 : ∀ jx e, (#[rd (stA Wg), wr (stA Wg)] : Array Event)[jx]? = some e → (MemAct.ofEvent e).touch? = none ∨ 0 < deafBehind 1 ((#[rd (stA Wg), wr (stA Wg)] : Array Event).extract 0 jx) := by
          intro jx e he
          match jx, he with
          | 0, _ => exact .inr (by simp [deafBehind])
          | 1, _ => exact .inr (by simp [deafBehind, rd])
          | jx + 2, he => simp at he
        -- the count
        have hcn : ∀ X' : Nat → Wk, cntA j X' = sumTo j (fun b => cnt1 (X' b)) := fun _ => rfl
        have hci : cnt1 (X i) = 1 := by unfold cnt1; rw [hst]; rfl
        have hc1 : ∀ m, sumTo j (fun b => cnt1 (upd X i ((X i).to 1 m 1) b)) + 1 = sumTo j (fun b => cnt1 (X b)) := fun m => by have := sumX (X := X) cnt1 hi ((X i).to 1 m 1); rw [hci] at this; exact this
        have hcl : cntA j X ≤ j := by unfold cntA; exact Nat.le_trans (sumTo_le (c := 1) fun b _ => by split <;> omega) (by omega)
        have hpd : pendA x.tag ≤ 1 := by unfold pendA; split <;> omega
        have hjn : j + pendA x.tag ≤ n := by
          have := h.num
          by_cases e : x.tag = 6 ∨ x.tag = 5
          · have : 0 < x.todo.length := by
              have hmo := h.mo
              generalize hx' : x = x' at hmo
              cases hmo <;> simp [hx'] at e ⊢
            have : pendA x.tag = 1 := if_pos e
            omega
          · have : pendA x.tag = 0 := if_neg e
            omega
        have hc0 := hc1 0
        obtain ⟨v, hv⟩ : ∃ v, cntA j X + pendA x.tag = v + 1 := ⟨cntA j X + pendA x.tag - 1, by rw [hcn]; omega⟩
        rw [hv] at hwgN
        have hw1 : WgAt ty Wg w (((v : Nat) + 1) * KK + ((0 : Nat) : Int)) 0 := by simpa using hwgN
        obtain ⟨g', hgo, _, hqq⟩ := hall v 0 (by omega) (by omega) hw1
        obtain ⟨qq, hqq⟩ := hqq (by omega)
        have hc2 := hc1 qq
        refine book (s' := 1) (m' := qq) (dd' := 1) (v' := v) hgo (aside_setCell w (stA Wg) _) (by rw [hcn] at hv ⊢; omega) (by have := hwgN.setSt (((v : Nat) : Int) * KK + ((0 : Nat) : Int)); simpa using this) (okW_of_Bk bk2) (norel_of_Bk bk2) (by rw [hdd]; rfl)
          (fun _ => ⟨rr, hrr.book (hdk.trans hdd) _ _ bk2 df2⟩) ?_ (by omega) (.inl (by omega))
        rw [hX]; exact .tail (by omega) (.quit hqq)
      · obtain ⟨g', w', es, hgo, ⟨e1, e2⟩, hg'⟩ := hstep w (RW.refl w)
        rw [e1, e2] at hgo
        rw [e1] at hg'
        exact idle hgo (.inr (.inl rfl)) rfl (by rw [hX]; exact .d1 hg')
    | quit hgs =>
      cases m with
      | zero => rw [hgs.1] at hrun; cases hrun
      | succ qq =>
        rcases hgs with ⟨hf, _⟩ | ⟨_, g', es, hmute, hstep, hqq⟩
        · rw [hf] at hrun; cases hrun
        · have hbk : ∀ e ∈ es, Bk Wg e := fun e he => Go.ConcR.bk_of_mute (hmute e he)
          have hno : ∀ jx e, es[jx]? = some e → (MemAct.ofEvent e).touch? = none ∨ 0 < deafBehind d (es.extract 0 jx) := fun jx e he => .inl (by
            rcases Go.ConcR.bk_of_mute (Wg := Wg) (hmute e (Array.mem_of_getElem? he)) with h1 | h1 | ⟨a, wr, rfl, _⟩
            · rw [Go.ConcR.ofEvent_loc_mark h1]; rfl
            · rw [Go.ConcR.ofEvent_loc_mark h1]; rfl
            · have := hmute _ (Array.mem_of_getElem? he); simp [Event.mute] at this)
          refine book (s' := 1) (m' := qq) (dd' := deafBehind d es) (hstep w) (.refl Wg w) (same (by rw [hst])) hwgN (okW_of_Bk hbk) (norel_of_Bk hbk) (by rw [hdd]) (fun _ => ⟨rr, hrr.book (hdk.trans hdd) _ _ hbk hno⟩) ?_ (by omega) (.inr ⟨hst.symm, by omega⟩)
          rw [hX]; exact .tail (by omega) (.quit hqq)
end

end Go.Proofs.Ytkbfcaaihellfaa

/- Workers with lanes and their starter: a worker up to the close of its lane: private steps, allocations, sends, the close. No program in sight. -/
namespace Go.Proofs.Ytkbfcaaihellfaa
open Go.Conc Go.ConcN
open Go.ConcR (KK wgBlock WgAt stA smA rd wr mk Payload Aside2 DC0 Bk g_of_ofEvents)
set_option linter.unusedVariables false
set_option linter.unusedSectionVars false

section
variable [Payload] {P : Program} {ty : TypeId} {Wg C n LW : Nat} {Rw : List Int → Nat → Obj → Value → Prop} {Dr : (Nat → Prop) → (Nat → Prop) → Goroutine → World → Prop}
variable {μ : Mu} {gs gs' : Array Goroutine} {w w' : World} {sl : Option (Nat × Nat)} {t : Trace} {j q : Nat} {X : Nat → Wk} {x : Mn} {ow : Nat → Ow} {a g g' : Goroutine}

theorem at_self (w : World) : w.at w.drawn = w := rfl
theorem WOk.noRecv {k : Nat} {y : Wk} (h : WOk P ty Wg C n LW Rw k y g w) (c : Nat) : offersAt g c false = [] := by
  rcases h.status with hs | ⟨_, g₂, v, z', rfl⟩
  · exact offersAt_of_not_blocked (by rcases hs with h | h <;> rw [h] <;> simp) c false
  · exact offersAt_parked_send' _ _ _ _ _ _
theorem WOk.noSend {k : Nat} {y : Wk} (h : WOk P ty Wg C n LW Rw k y g w) {c : Nat} (hc : y.st = 8 → y.c ≠ c) : offersAt g c true = [] := by
  rcases h.status with hs | ⟨h8, g₂, v, z', rfl⟩
  · exact offersAt_of_not_blocked (by rcases hs with h | h <;> rw [h] <;> simp) c true
  · rw [offersAt_parked_send, if_neg (hc h8)]
theorem St.noRecv (h : St P ty Wg C n LW Rw Dr μ gs w t j X x ow a q) (hD : ∀ S M g w, Dr S M g w → g.status = .running) {i : Nat} (hi : i < j) (hn : ¬ (x.tag = 3 ∧ q = i)) : partners (gs.setIfInBounds (i + 1) ph) (X i).c false = [] := by
  refine partners_nil fun k y hk => ?_
  rcases getElem?_stand gs (i + 1) k y hk with ⟨_, rfl⟩ | ⟨hne, hk'⟩
  · exact offersAt_ph _ _
  · cases k with
    | zero =>
      rw [h.ha] at hk'; cases hk'
      rcases h.mo.status hD with ⟨hs, _⟩ | ⟨h3, c, ls, rest, g₂, z, hL, rfl⟩
      · exact offersAt_of_not_blocked (by rw [hs]; simp) _ _
      · rw [offersAt_parked_recv, if_neg]
        intro e
        obtain ⟨hcq, hq, _⟩ := h.open3 h3 hL
        exact hn ⟨h3, h.own.cc q i hq hi (hcq.trans e)⟩
    | succ k =>
      have hkj : k < j := by have := (Array.getElem?_eq_some_iff.1 hk').1; rw [h.base.size] at this; omega
      obtain ⟨y', hy', hs⟩ := h.base.wk k hkj
      rw [hk'] at hy'; cases hy'
      exact hs.noRecv _

/-- A WORKER IS PARKED AT ITS SEND. -/
theorem St.park (h : St P ty Wg C n LW Rw Dr μ gs w t j X x ow a q) (hD : ∀ S M g w, Dr S M g w → g.status = .running) {i : Nat} (hi : i < j) (h9 : (X i).st = 9) (hd9 : (X i).d = 0) (hg : gs[i + 1]? = some g) {xs : List Int} {l : List (List Int)} {v z' : Value} {g₂ : Goroutine}
    (hrows : (X i).rows = xs :: l) (hn : ¬ (x.tag = 3 ∧ q = i)) (hst : ∀ d, stepG P false g (w.at d) = .comm g₂ #[scase (X i).c v z'] true .send (w.at d) #[]) (hx : WOk P ty Wg C n LW Rw (i + 1) ⟨xs :: l, (X i).c, (X i).M, (X i).S, 8, .leaf, 0, 0⟩ (parked g₂ #[scase (X i).c v z'] .send) w) :
    ∃ m₁ ops μ', runT P (crowd gs w sl) (i + 1) = (.next m₁, ops) ∧ Lt3 μ' μ ∧ InvA P ty Wg C n LW Rw Dr μ' m₁ (t ++ ops) := by
  have B := h.base
  have O := h.own
  obtain ⟨s, hs⟩ := B.ch i hi
  rw [h9] at hs
  have hgo := hst w.drawn
  rw [at_self] at hgo
  have hrun := crowd_waits (P := P) (sl := sl) hg (by simpa using hgo) (fun cc hcc => by
    simp at hcc
    subst hcc
    exact ways_send_none (v := v) (z := z') hs (by simp) (h.noRecv hD hi hn))
  have hx' : ∀ x' : Wk, x' = ⟨xs :: l, (X i).c, (X i).M, (X i).S, 8, .leaf, 0, 0⟩ → ∃ m₁ ops μ', runT P (crowd gs w sl) (i + 1) = (.next m₁, ops) ∧ Lt3 μ' μ ∧ InvA P ty Wg C n LW Rw Dr μ' m₁ (t ++ ops) := by
    intro x' ex
    have xc : x'.c = (X i).c := by rw [ex]
    have xS : x'.S = (X i).S := by rw [ex]
    have xM : x'.M = (X i).M := by rw [ex]
    have x8 : x'.st = 8 := by rw [ex]
    have xr : x'.rows = (X i).rows := by rw [ex, hrows]
    obtain ⟨f1, f2⟩ := fams (X := X) xc xS xM
    have hcu : ∀ i', (upd X i x' i').c = (X i').c := fun i' => by
      by_cases e : i' = i
      · subst e; rw [upd_same, xc]
      · rw [upd_ne X x' e]
    have hru : ∀ i', (upd X i x' i').rows = (X i').rows := fun i' => by
      by_cases e : i' = i
      · subst e; rw [upd_same, xr]
      · rw [upd_ne X x' e]
    have e1 := sumX (X := X) pot hi x'
    have p1 : pot x' = 13 + 4 * (X i).rows.length := by unfold pot; rw [x8, xr]; simp
    have p2 : pot (X i) = 15 + 4 * (X i).rows.length := by unfold pot; rw [h9]; simp
    have hops : MemOp.ofEvents (i + 1) g.frame.fn g.frame.place #[] = #[] := rfl
    rw [hops] at hrun
    refine ⟨_, _, (rank x + sumTo j (fun b => pot (upd X i x' b)), x.f :: lst j (fun b => (upd X i x' b).f), sumTo j (fun b => (upd X i x' b).m)), hrun, ?_, _, w, sl, j, upd X i x', x, ow, a, q, rfl, ?_, h.mo, ?_, O.same rfl hi xc xS xM, ?_, ⟨h.lnk.len, fun p c ls hp => ?_, fun h3 => ?_, fun i' hi' => ?_, h.lnk.sp, h.lnk.pos⟩, h.num, rfl⟩
    · rw [h.mu]; exact lt3_1 (by omega)
    · rw [Array.getElem?_setIfInBounds_ne (by omega)]; exact h.ha
    · simp only [Array.append_empty]
      refine ⟨by simp [B.size], fun i' hi' => ?_, by rw [f1, f2]; exact B.ct, B.low, B.norel, B.deaf0, fun i' hi' => ?_, fun i' hi' hs' => ?_, fun i' hi' => by rw [hcu]; exact B.has i' hi', B.pay, fun i' hi' => ?_, fun i' hi' => ?_⟩
      · by_cases e : i' = i
        · subst e
          exact ⟨_, by rw [Array.getElem?_setIfInBounds_self_of_lt (by rw [B.size]; omega)], by rw [upd_same, ex]; exact hx⟩
        · obtain ⟨y, hy, hsy⟩ := B.wk i' hi'
          exact ⟨y, by rw [Array.getElem?_setIfInBounds_ne (by omega)]; exact hy, by rw [upd_ne X x' e]; exact hsy⟩
      · rw [B.deafW i' hi']
        by_cases e : i' = i
        · subst e; rw [upd_same, ex, hd9]
        · rw [upd_ne X x' e]
      · have hne : i' ≠ i := fun e => by subst e; rw [upd_same, x8] at hs'; omega
        rw [upd_ne X x' hne] at hs'
        exact B.rel i' hi' hs'
      · rw [hcu]
        by_cases e : i' = i
        · subst e; rw [upd_same, x8]; exact ⟨s, hs⟩
        · rw [upd_ne X x' e]; exact B.ch i' hi'
      · by_cases e : i' = i
        · subst e; rw [upd_same, x8]; exact .inr (.inl rfl)
        · rw [upd_ne X x' e]; exact B.low7 i' hi'
    · rw [cnt_same hi (by rw [x8, h9]; omega)]; exact h.wg
    · rw [hcu, hru]; exact h.lnk.at_ p c ls hp
    · rw [upd_ne X x' (fun e => hn ⟨h3, e⟩)]; exact h.lnk.pk h3
    · by_cases e : i' = i
      · subst e; have := h.lnk.past i' hi'; omega
      · rw [upd_ne X x' e]; exact h.lnk.past i' hi'
  exact hx' _ rfl

/-- WHATEVER STEP OF A WORKER's UP TO THE CLOSE. -/
theorem St.way (h : St P ty Wg C n LW Rw Dr μ gs w t j X x ow a q) (hD : ∀ S M g w, Dr S M g w → g.status = .running) {i : Nat} (hi : i < j) (hg : gs[i + 1]? = some g) (h9 : (X i).st = 9) :
    ∃ m₁ ops μ', runT P (crowd gs w sl) (i + 1) = (.next m₁, ops) ∧ Lt3 μ' μ ∧ InvA P ty Wg C n LW Rw Dr μ' m₁ (t ++ ops) := by
  have B := h.base
  have O := h.own
  obtain ⟨g₁, hg₁, hs⟩ := B.wk i hi
  obtain rfl : g = g₁ := by rw [hg] at hg₁; exact Option.some.inj hg₁
  obtain ⟨s, hch⟩ := B.ch i hi
  rw [h9] at hch
  have cWg : (X i).c ≠ Wg := fun e => by have := O.c i hi; rw [e, O.wg] at this; cases this
  generalize hX : X i = y at hs
  cases hs with
  | park => rw [hX] at h9; simp at h9
  | tail7 => rw [hX] at h9; simp at h9
  | tail h6 => rw [hX] at h9; simp at h9; omega
  | way hway =>
    rename_i rows c M S f m
    have hd9 : (X i).d = 0 := by rw [hX]
    have eM : (X i).M = M := by rw [hX]
    have eS : (X i).S = S := by rw [hX]
    have ec : (X i).c = c := by rw [hX]
    have er : (X i).rows = rows := by rw [hX]
    have ef : (X i).f = f := by rw [hX]
    rcases hway.split with hstop | ⟨hrun, g', w', es, hgo, hgn, f', hsub, hK⟩
    · cases rows with
      | nil =>
        obtain ⟨hrn, hmw, g', hg', hstep, hk⟩ := hstop
        have hgo := hstep s (by rw [← ec]; exact hch) w.drawn
        rw [at_self] at hgo
        have clt : c < w.heap.size := by rw [← ec]; exact O.lt (by rw [O.c i hi]; exact Ow.noConfusion)
        have hlive : WgLive ty Wg w → WgLive ty Wg (w.setChan c 0 #[] true s s false) := live_of (chan_get (by rw [← ec]; exact fun e => cWg e.symm))
        have hok : ∀ op ∈ MemOp.ofEvents (i + 1) g.frame.fn g.frame.place (closeEvents c), OkW (ShN Wg) (OwnF X) (RdF X) (i + 1) op := by
          intro op hop
          obtain ⟨h1, e, he, ha⟩ := mem_ofEvents hop
          refine ⟨h1, fun y hy => ?_⟩
          rw [ha] at hy
          simp only [closeEvents, List.mem_toArray, List.mem_cons, List.not_mem_nil, or_false] at he
          rcases he with rfl | rfl
          · simp [MemAct.ofEvent, MemAct.touch?] at hy
            subst hy
            exact .inr (.inr ⟨⟨by omega, .inr (by rw [Nat.add_sub_cancel, ec])⟩, rfl⟩)
          · simp [MemAct.ofEvent, MemAct.touch?] at hy
        have hnr : ∀ op ∈ MemOp.ofEvents (i + 1) g.frame.fn g.frame.place (closeEvents c), op.act ≠ .mark (.release (stA Wg)) := by
          intro op hop
          obtain ⟨h1, e, he, ha⟩ := mem_ofEvents hop
          rw [ha]
          simp only [closeEvents, List.mem_toArray, List.mem_cons, List.not_mem_nil, or_false] at he
          rcases he with rfl | rfl <;> simp [MemAct.ofEvent]
        have hCw : (w.setChan c 0 #[] true s s false).heap[C]? = w.heap[C]? := chan_get (fun e => by have := O.c i hi; rw [ec, ← e, O.cst] at this; cases this)
        have hhasC : Has C (i + 1 - 1) (.chan (some c)) (w.setChan c 0 #[] true s s false) := by rw [Nat.add_sub_cancel, ← ec]; exact (cell_of_block (by rw [ec]; exact hCw) i).trans (B.has i hi)
        obtain ⟨m2, hk2⟩ := hk (w.setChan c 0 #[] true s s false) ⟨fun b hb => chan_get (fun e => by have := O.c i hi; rw [ec, ← e] at this; rcases hb with hb | hb; exact Ow.noConfusion ((O.hm (by rw [eM]; exact hb)).symm.trans this); exact Ow.noConfusion ((O.hs (i := i) (by rw [eS]; exact hb)).symm.trans this)), by rw [chan_size]; exact Nat.le_refl _, hlive⟩ (hlive ⟨_, _, h.wg⟩) hhasC
        have hp7 : pot ⟨[], c, M, S, 7, .leaf, m2, 0⟩ = 7 := rfl
        have hp9 : pot (X i) = 15 := by rw [hX]; rfl
        have base : ∀ {y : Mn}, (y.todo = x.todo ∧ y.L = x.L ∧ y.S = x.S ∧ y.M = x.M ∧ y.d = x.d ∧ pendA y.tag = pendA x.tag ∧ (y.tag = 3 → x.tag = 3 ∧ (X q).st = 9 ∧ q ≠ i) ∧ (5 ≤ y.tag → 5 ≤ x.tag)) → MOk P ty Wg C n LW Rw Dr j y (woken P g g' (w.setChan c 0 #[] true s s false) a) (w.setChan c 0 #[] true s s false) → rank y ≤ rank x + 1 →
            ∃ m₁ ops μ', runT P (crowd gs w sl) (i + 1) = (.next m₁, ops) ∧ Lt3 μ' μ ∧ InvA P ty Wg C n LW Rw Dr μ' m₁ (t ++ ops) := by
          intro y hy hmo hry
          refine h.goT hi hg hgo (x' := ⟨[], c, M, S, 7, .leaf, m2, 0⟩) chan_size (.inr ec.symm) (fun b hb => chan_get hb) ec.symm er.symm eS.symm eM.symm (Nat.le_refl 7) (.inl rfl) ⟨s, by rw [ec]; exact chan_at clt⟩ ?_ hok hnr (by rw [hd9]; rfl) (fun h6 => absurd h6 (by show ¬ 7 ≤ 6; omega)) ⟨_, rfl, ?_⟩ hy hmo (.inl (by rw [hp7, hp9]; omega))
          · exact .tail7 hk2
          · rw [cnt_same hi (by rw [h9]; show 5 ≤ 7 ↔ 5 ≤ 9; omega)]
            exact h.wg.of_block (chan_get (by rw [← ec]; exact fun e => cWg e.symm))
        by_cases h3 : x.tag = 3 ∧ q = i
        · obtain ⟨h3, hqi⟩ := h3
          have hmo := h.mo
          have hmu := h.mu
          generalize hxx : x = x' at hmo
          cases hmo with
          | lane => rw [hxx] at h3; simp at h3
          | kd => rw [hxx] at h3; simp at h3
          | a1 => rw [hxx] at h3; simp at h3
          | ke => rw [hxx] at h3; simp at h3
          | go => rw [hxx] at h3; simp at h3
          | rg => rw [hxx] at h3; simp at h3
          | door => rw [hxx] at h3; simp at h3
          | pk hpk =>
            rename_i c0 ls rest S0 M0 z gm
            have hL : x.L = (c0, ls) :: rest := by rw [hxx]
            obtain ⟨hcq, hq, _⟩ := h.open3 h3 hL
            have hcc : c0 = c := by rw [← hcq, hqi, ec]
            subst hcc
            have r0 : RM ty Wg (fun b => M0 b ∨ S0 b) w (w.setChan c0 0 #[] true s s false) := by
              have := O.rm0 (w' := w.setChan c0 0 #[] true s s false) (ty := ty) (fun b hb => chan_get (fun e => by have := O.c i hi; rw [ec, ← e] at this; rcases hb with hb | hb <;> rw [hb] at this <;> cases this)) (by rw [chan_size]; exact Nat.le_refl _) hlive
              rw [hxx] at this; exact this
            refine base (y := ⟨[], (c0, ls) :: rest, S0, M0, 4, .leaf, 0⟩) ⟨by rw [hxx], by rw [hxx], by rw [hxx], by rw [hxx], by rw [hxx], by rw [hxx]; rfl, fun h => by simp at h, fun h => by simp at h⟩ (MOk.wokenClosed (.pk hpk) r0 (chan_at clt) hmw hg') (by rw [hxx]; simp [rank])
        · refine base (y := x) ⟨rfl, rfl, rfl, rfl, rfl, rfl, fun h3' => ⟨h3', h.lnk.pk h3', fun e => h3 ⟨h3', e⟩⟩, id⟩ (h.mainStands hD chan_size (B0 := c) (.inr (by rw [← ec]; exact O.c i hi)) (fun b hb => chan_get hb) hlive fun h3' e => ?_) (by omega)
          have hqj : q < j := by have := h.lnk.len; have := h.lnk.pos h3'; omega
          exact h3 ⟨h3', O.cc q i hqj hi (e.trans ec.symm)⟩
      | cons xs l =>
        obtain ⟨hrn, r, o, v, hr, ho, hv, g₂, z', hst, hK⟩ := hstop
        by_cases h3 : x.tag = 3 ∧ q = i
        · obtain ⟨h3, rfl⟩ := h3
          have hmo := h.mo
          generalize hxx : x = x' at hmo
          cases hmo with
          | lane => rw [hxx] at h3; simp at h3
          | kd => rw [hxx] at h3; simp at h3
          | a1 => rw [hxx] at h3; simp at h3
          | ke => rw [hxx] at h3; simp at h3
          | go => rw [hxx] at h3; simp at h3
          | rg => rw [hxx] at h3; simp at h3
          | door => rw [hxx] at h3; simp at h3
          | pk hpk =>
            rename_i c0 ls rest S0 M0 z gm
            have hL : x.L = (c0, ls) :: rest := by rw [hxx]
            have hlk := h.lnk.at_ 0 c0 ls (by rw [hL]; rfl)
            simp only [Nat.add_zero] at hlk
            obtain rfl : c0 = c := by rw [← hlk.1, ec]
            obtain rfl : ls = xs :: l := by rw [← hlk.2, er]
            obtain ⟨hrv, hrow⟩ := hpk w (RM.refl w)
            have hgo := hst w.drawn
            rw [at_self] at hgo
            have hpart : partners (gs.setIfInBounds (q + 1) ph) c0 false = [(0, 0)] := by
              rw [partners_one (j := 0) (g := parked gm #[rcase c0 z] (.recv true)) (by rw [Array.getElem?_setIfInBounds_ne (by omega)]; exact h.ha) (fun k y hk hy => ?_), offersAt_parked_recv, if_pos rfl]
              · rfl
              · rcases getElem?_stand gs (q + 1) k y hy with ⟨_, rfl⟩ | ⟨_, hy'⟩
                · exact offersAt_ph _ _
                · obtain ⟨k, rfl⟩ : ∃ k', k = k' + 1 := ⟨k - 1, by omega⟩
                  have hkj : k < j := by have := (Array.getElem?_eq_some_iff.1 hy').1; rw [B.size] at this; omega
                  obtain ⟨y', hy'', hs⟩ := B.wk k hkj
                  rw [hy'] at hy''; cases hy''
                  exact hs.noRecv _
            have hrun := crowd_send_meets (P := P) (sl := sl) hg (by simpa using hgo) (by rw [← ec]; exact hch) (j := 0) (by omega) h.ha hpart
            have hM : (X q).M r := by rw [eM]; exact hr
            obtain ⟨μ', h1, h2⟩ := h.meet (sl := sl) hi (c := c0) (r := r) (s := s) (xs := xs) (l := l) (rest := rest) (o := o) (v := v) (g₂ := g₂) (gm := gm) (gs' := (gs.setIfInBounds 0 (Go.Conc.served gm (recvd true v true))).setIfInBounds (q + 1) (Go.Conc.served g₂ undef)) (by rw [hxx]) hL (.inl ⟨h3, h9⟩) (by rw [hxx]) hd9 hM ho hv (by rw [eM, eS]; exact hK) (by rw [hxx]; exact hrow)
              (by rw [← ec]; exact hch) (by simp) (by rw [Array.getElem?_setIfInBounds_ne (by omega), Array.getElem?_setIfInBounds_self_of_lt (by rw [B.size]; omega)]) (by rw [Array.getElem?_setIfInBounds_self_of_lt (by simp [B.size]; omega)])
              (fun b h1 h2 => by rw [Array.getElem?_setIfInBounds_ne (fun e => h2 e.symm), Array.getElem?_setIfInBounds_ne (fun e => h1 e.symm)]) g₂.frame.fn g₂.frame.place gm.frame.fn gm.frame.place
            refine ⟨_, _, μ', hrun, h1, ?_⟩
            simp only [finishComm_recv, finishComm_send]
            have e0 : MemOp.ofEvents (q + 1) g.frame.fn g.frame.place #[] = #[] := rfl
            rw [e0, Array.empty_append]
            exact h2
        · refine h.park hD hi h9 hd9 hg er h3 (by rw [ec]; exact hst) ?_
          rw [ec, eM, eS]; exact .park hr ho hv hK
    · -- a step of its own
      refine h.goW hD hi (by rw [h9]; omega) hd9 hg hgo ⟨fun b hb hlt => hgn.keep b (fun hM => hb ((O.m i hi b).1 (by rw [eM]; exact hM))) hlt, hgn.size⟩ (by rw [eM, eS]; exact fun e he => (hgn.evs e he).resolve_right fun x => by cases x.1) (x' := ⟨rows, c, more M w w', S, 9, f', 0, 0⟩) (.way hK) ec.symm er.symm eS.symm (fun b => by rw [eM]; exact Iff.rfl) h9.symm rfl (by rw [ef]; exact hsub)
end

end Go.Proofs.Ytkbfcaaihellfaa

/- Workers with lanes and their starter: the starter up to its go statement. No program in sight. -/
namespace Go.Proofs.Ytkbfcaaihellfaa
open Go.Conc Go.ConcN
open Go.ConcR (KK wgBlock WgAt stA smA rd wr mk Payload Aside2 DC0 Bk g_of_ofEvents)
set_option linter.unusedVariables false
set_option linter.unusedSectionVars false

section
variable [Payload] {P : Program} {ty : TypeId} {Wg C n LW : Nat} {Rw : List Int → Nat → Obj → Value → Prop} {Dr : (Nat → Prop) → (Nat → Prop) → Goroutine → World → Prop}
variable {μ : Mu} {gs gs' : Array Goroutine} {w w' : World} {sl : Option (Nat × Nat)} {t : Trace} {j q : Nat} {X : Nat → Wk} {x : Mn} {ow : Nat → Ow} {a g g' : Goroutine}

/-- A private step of the starter's; memory may have grown. -/
theorem St.go0g (h : St P ty Wg C n LW Rw Dr μ gs w t j X x ow a q) {a' : Goroutine} {es : Array Event} (hs : stepG P true a w = .go a' w' es) (hp : Pvt ow .mn w w') (hok : ∀ op ∈ MemOp.ofEvents 0 a.frame.fn a.frame.place es, Ok0 (ShN Wg) (OwnF X) (RdF X) j op)
    (hlow : ∀ op ∈ MemOp.ofEvents 0 a.frame.fn a.frame.place es, ∀ y, op.act.touch? = some y → y.loc.isMemory = true → blk y.loc < w.heap.size) (hnr : ∀ op ∈ MemOp.ofEvents 0 a.frame.fn a.frame.place es, op.act ≠ .mark (.release (stA Wg))) (hdf : deafBehind x.d es = x.d)
    {y : Mn} (hy : y.todo = x.todo ∧ y.L = x.L ∧ y.S = x.S ∧ y.d = x.d ∧ y.tag = x.tag) (hM : y.M = more x.M w w') (hmo : MOk P ty Wg C n LW Rw Dr j y a' w') (h3 : x.tag ≠ 3)
    (hlt : Sub y.f x.f) :
    ∃ m₁ ops μ', runT P (crowd gs w sl) 0 = (.next m₁, ops) ∧ Lt3 μ' μ ∧ InvA P ty Wg C n LW Rw Dr μ' m₁ (t ++ ops) := by
  have hrun := runT_crowd_go (P := P) (sl := sl) (i := 0) h.ha (by simpa using hs)
  obtain ⟨hy1, hy2, hy3, hy5, hy6⟩ := hy
  have er : rank y = rank x := by unfold rank; rw [hy1, hy2, hy6]
  refine ⟨_, _, (rank y + sumTo j (fun b => pot (X b)), y.f :: lst j (fun b => (X b).f), sumTo j (fun b => (X b).m)), hrun, ?_, _, w', sl, j, X, y, _, a', q, rfl, get_map_set_same _ _ _ (by rw [h.base.size]; omega), hmo, by rw [hy5]; exact h.base.step0g h.own hp hok hlow hnr hdf, by rw [hy3, hM]; exact h.own.new0 hp.size, ?_,
    ⟨by rw [hy2]; exact h.lnk.len, by rw [hy2]; exact h.lnk.at_, fun e => absurd (by rw [← hy6]; exact e) h3, h.lnk.past, by rw [hy6]; exact h.lnk.sp, fun e => absurd (by rw [← hy6]; exact e) h3⟩, by rw [hy1]; exact h.num, rfl⟩
  · rw [h.mu]
    exact lt3_2 (by omega) (.head hlt)
  · rw [hy6]
    exact h.wg.of_block (h.own.pvtKeep hp (by rw [h.own.wg]; exact Ow.noConfusion) (by rw [h.own.wg]; exact Ow.noConfusion))
/-- What the starter's bookkeeping lists. -/
theorem OwnG.ok0S {M0 S0 : Nat → Prop} (O : OwnG Wg C LW j w X M0 S0 ow) {fn : FuncId} {pos : String} {es : Array Event} (hes : ∀ e ∈ es, EvM M0 S0 e ∨ EvSaid Wg e) (d : Nat) :
    (∀ op ∈ MemOp.ofEvents 0 fn pos es, Ok0 (ShN Wg) (OwnF X) (RdF X) j op) ∧ (∀ op ∈ MemOp.ofEvents 0 fn pos es, ∀ y, op.act.touch? = some y → y.loc.isMemory = true → blk y.loc < w.heap.size) ∧ (∀ op ∈ MemOp.ofEvents 0 fn pos es, op.act ≠ .mark (.release (stA Wg))) ∧ deafBehind d es = d := by
  have one : ∀ {e : Event}, (EvM M0 S0 e) → ∀ op ∈ MemOp.ofEvents 0 fn pos #[e], Ok0 (ShN Wg) (OwnF X) (RdF X) j op ∧ (∀ y, op.act.touch? = some y → y.loc.isMemory = true → blk y.loc < w.heap.size) ∧ op.act ≠ .mark (.release (stA Wg)) := fun {e} he op hop =>
    ⟨O.ok0 (by intro e' he'; simp at he'; subst he'; exact he) op hop, O.low0 (by intro e' he'; simp at he'; subst he'; exact he) op hop, norel_evM (M := M0) (S := S0) (by intro e' he'; simp at he'; subst he'; exact he) op hop⟩
  have all : ∀ op ∈ MemOp.ofEvents 0 fn pos es, Ok0 (ShN Wg) (OwnF X) (RdF X) j op ∧ (∀ y, op.act.touch? = some y → y.loc.isMemory = true → blk y.loc < w.heap.size) ∧ op.act ≠ .mark (.release (stA Wg)) := by
    intro op hop
    obtain ⟨h1, h2⟩ := mem_ofEvents hop
    obtain ⟨e, he, ha⟩ := h2
    rcases hes e he with h | ⟨ad, hb, h⟩
    · refine one h op ?_
      unfold MemOp.ofEvents at hop ⊢
      split at hop
      · simp at hop
      · obtain ⟨e', he', rfl⟩ := Array.mem_map.1 hop
        simp at ha
        simp [ha]
    · refine ⟨⟨h1, fun y hy => .inl ?_⟩, fun y hy _ => ?_, ?_⟩
      · rcases h with rfl | rfl <;> (rw [ha] at hy; simp [MemAct.ofEvent, MemAct.touch?] at hy; subst hy; exact ⟨⟨ad, rfl, hb⟩, by simp⟩)
      · have hlt : Wg < w.heap.size := O.lt (by rw [O.wg]; exact Ow.noConfusion)
        rcases h with rfl | rfl <;> (rw [ha] at hy; simp [MemAct.ofEvent, MemAct.touch?] at hy; subst hy; show ad.block < _; omega)
      · rcases h with rfl | rfl <;> (rw [ha]; simp [MemAct.ofEvent])
  refine ⟨fun op hop => (all op hop).1, fun op hop => (all op hop).2.1, fun op hop => (all op hop).2.2, ?_⟩
  unfold deafBehind
  rw [← Array.foldl_toList]
  have : ∀ (l : List Event), (∀ e ∈ l, EvM M0 S0 e ∨ EvSaid Wg e) → ∀ d, l.foldl (fun d e => match e.loc with | .mark .disable => d + 1 | .mark .enable => d - 1 | _ => d) d = d := by
    intro l
    induction l with
    | nil => intro _ d; rfl
    | cons e l ih =>
      intro h d
      rw [List.foldl_cons]
      rcases h e (by simp) with (⟨a, ha, _⟩ | ⟨r, hr, _⟩ | rfl) | ⟨ad, _, rfl | rfl⟩
      · rw [ha]; exact ih (fun e he => h e (by simp [he])) d
      · rw [hr]; exact ih (fun e he => h e (by simp [he])) d
      · exact ih (fun e he => h e (by simp [he])) d
      · exact ih (fun e he => h e (by simp [he])) d
      · exact ih (fun e he => h e (by simp [he])) d
  exact this _ (fun e he => hes e (by simpa using he)) d
theorem St.go0 (h : St P ty Wg C n LW Rw Dr μ gs w t j X x ow a q) {a' : Goroutine} {es : Array Event} (hs : stepG P true a w = .go a' w' es) (hgn : GN true Wg x.M x.S w w' es)
    {y : Mn} (hy : y.todo = x.todo ∧ y.L = x.L ∧ y.S = x.S ∧ y.d = x.d ∧ y.tag = x.tag) (hM : y.M = more x.M w w') (hmo : MOk P ty Wg C n LW Rw Dr j y a' w') (h3 : x.tag ≠ 3) (hlt : Sub y.f x.f) :
    ∃ m₁ ops μ', runT P (crowd gs w sl) 0 = (.next m₁, ops) ∧ Lt3 μ' μ ∧ InvA P ty Wg C n LW Rw Dr μ' m₁ (t ++ ops) := by
  obtain ⟨k1, k2, k3, k4⟩ := h.own.ok0S (fn := a.frame.fn) (pos := a.frame.place) (es := es) (fun e he => (hgn.evs e he).imp id (·.2)) x.d
  exact h.go0g hs ⟨fun b hb hlt => hgn.keep b (fun hm => hb ((h.own.m0 b).1 hm)) hlt, hgn.size⟩ k1 k2 k3 k4 hy hM hmo h3 hlt
/-- A step of the starter's by which at most block B0 turns: the group's, or the row of lanes. -/
theorem St.goB (h : St P ty Wg C n LW Rw Dr μ gs w t j X x ow a q) {B0 : Nat} {a' : Goroutine} {es : Array Event} (hs : stepG P true a w = .go a' w' es) (hsz : w'.heap.size = w.heap.size) (hB : B0 = Wg ∨ B0 = C) (hblk : ∀ b, b ≠ B0 → w'.heap[b]? = w.heap[b]?)
    (hpay : PayAt C n w') (hhas : ∀ i, i < j → Has C i (.chan (some (X i).c)) w') (hok : ∀ op ∈ MemOp.ofEvents 0 a.frame.fn a.frame.place es, Ok0 (ShN Wg) (OwnF X) (RdF X) j op) (hlow : ∀ op ∈ MemOp.ofEvents 0 a.frame.fn a.frame.place es, ∀ y, op.act.touch? = some y → y.loc.isMemory = true → blk y.loc < w.heap.size)
    (hnr : ∀ op ∈ MemOp.ofEvents 0 a.frame.fn a.frame.place es, op.act ≠ .mark (.release (stA Wg))) {y : Mn} (hy : y.todo = x.todo ∧ y.L = x.L ∧ y.S = x.S ∧ y.M = x.M) (hd : deafBehind x.d es = y.d) (h5 : 5 ≤ x.tag) (h5' : 5 ≤ y.tag) (htag : y.tag < x.tag)
    (hmo : MOk P ty Wg C n LW Rw Dr j y a' w') (hwg : WgAt ty Wg w' (((cntA j X + pendA y.tag : Nat) : Int) * KK) 0) :
    ∃ m₁ ops μ', runT P (crowd gs w sl) 0 = (.next m₁, ops) ∧ Lt3 μ' μ ∧ InvA P ty Wg C n LW Rw Dr μ' m₁ (t ++ ops) := by
  have hrun := runT_crowd_go (P := P) (sl := sl) (i := 0) h.ha (by simpa using hs)
  have B := h.base
  have O := h.own
  obtain ⟨hy1, hy2, hy3, hy4⟩ := hy
  have er : rank y < rank x := by unfold rank; rw [hy1, hy2]; omega
  have hlive : WgLive ty Wg w → WgLive ty Wg w' := fun _ => ⟨_, _, hwg⟩
  have kp : ∀ {b}, ow b ≠ .wg → b ≠ C → w'.heap[b]? = w.heap[b]? := fun {b} h1 h2 => hblk b fun e => by
    rcases hB with e' | e'
    · exact h1 (by rw [e, e', O.wg])
    · exact h2 (e.trans e')
  have hcC : ∀ i, i < j → (X i).c ≠ C := fun i hi e => by have := O.c i hi; rw [e, O.cst] at this; cases this
  have hchs : ∀ i, i < j → w'.heap[(X i).c]? = w.heap[(X i).c]? := fun i hi => kp (by rw [O.c i hi]; exact Ow.noConfusion) (hcC i hi)
  refine ⟨_, _, (rank y + sumTo j (fun b => pot (X b)), y.f :: lst j (fun b => (X b).f), sumTo j (fun b => (X b).m)), hrun, ?_, _, w', sl, j, X, y, ow, a', q, rfl, get_map_set_same _ _ _ (by rw [B.size]; omega), hmo, ?_, ?_, hwg,
    ⟨by rw [hy2]; exact h.lnk.len, by rw [hy2]; exact h.lnk.at_, fun e => by omega, h.lnk.past, fun _ => h.lnk.sp h5, fun e => by omega⟩, by rw [hy1]; exact h.num, rfl⟩
  · rw [h.mu]; exact lt3_1 (by omega)
  · refine ⟨by simp [B.size], fun i hi => ?_, B.ct.app0 O.apart hok, low_app B.low (by rw [hsz]; exact Nat.le_refl _) (by rw [hsz]; exact hlow), B.norel.app hnr, by rw [Deaf_own, B.deaf0]; exact hd, fun i hi => by rw [Deaf_other t (by omega) _ g_of_ofEvents, B.deafW i hi], fun i hi hst => ?_, hhas, hpay, fun i hi => by rw [hchs i hi]; exact B.ch i hi, B.low7⟩
    · refine B.others O hi (by omega) ⟨⟨fun b hb => ?_, by rw [hsz]; exact Nat.le_refl _, hlive⟩, ⟨fun b h1 h2 h3 => kp (by rw [O.low b h1 h2]; exact Ow.noConfusion) h3, hlive, fun _ => hpay, ?_⟩⟩ (hchs i hi)
      · rcases hb with hb | hb
        · have := O.hm hb
          exact kp (by rw [this]; exact Ow.noConfusion) (fun e => by rw [e, O.cst] at this; cases this)
        · have := O.s i hi b hb
          exact kp (by rw [this.1]; exact Ow.noConfusion) this.2
      · have h1 := hhas i hi
        have h2 := B.has i hi
        unfold Has at h1 h2
        rw [Nat.add_sub_cancel, h1, h2]
    · obtain ⟨r, hr⟩ := B.rel i hi hst
      exact ⟨r, hr.appOther g_of_ofEvents (by omega)⟩
  · rw [hy3, hy4]
    exact ⟨O.m, O.m0, O.s0, O.s, O.c, O.cc, O.wg, O.wg1, O.cst, fun b => by rw [hsz]; exact O.fr b, O.low, O.wk, O.out⟩

theorem ok0_mute {Wg : Nat} {fn : FuncId} {pos : String} {es : Array Event} {OwnG Rd : Nat → Loc → Prop} (h : ∀ e ∈ es, (MemAct.ofEvent e).touch? = none) : ∀ op ∈ MemOp.ofEvents 0 fn pos es, Ok0 (ShN Wg) OwnG Rd j op := by
  intro op hop
  obtain ⟨h1, e, he, ha⟩ := mem_ofEvents hop
  exact ⟨h1, fun y hy => by rw [ha, h e he] at hy; cases hy⟩
theorem low_mute {fn : FuncId} {pos : String} {es : Array Event} {N : Nat} (h : ∀ e ∈ es, (MemAct.ofEvent e).touch? = none) : ∀ op ∈ MemOp.ofEvents 0 fn pos es, ∀ y, op.act.touch? = some y → y.loc.isMemory = true → blk y.loc < N := by
  intro op hop y hy
  obtain ⟨h1, e, he, ha⟩ := mem_ofEvents hop
  rw [ha, h e he] at hy; cases hy
/-- A mark of the starter's. -/
theorem St.mark0 (h : St P ty Wg C n LW Rw Dr μ gs w t j X x ow a q) {a' : Goroutine} {m : Mark} (hs : stepG P true a w = .go a' w (#[Go.ConcR.mk m] : Array Event)) (hm : m = .disable ∨ m = .enable) {y : Mn} (hy : y.todo = x.todo ∧ y.L = x.L ∧ y.S = x.S ∧ y.M = x.M) (hd : deafBehind x.d (#[Go.ConcR.mk m] : Array Event) = y.d)
    (h5 : 5 ≤ x.tag) (h5' : 5 ≤ y.tag) (htag : y.tag < x.tag) (hp : pendA y.tag = pendA x.tag) (hmo : MOk P ty Wg C n LW Rw Dr j y a' w) : ∃ m₁ ops μ', runT P (crowd gs w sl) 0 = (.next m₁, ops) ∧ Lt3 μ' μ ∧ InvA P ty Wg C n LW Rw Dr μ' m₁ (t ++ ops) := by
  have ht : ∀ e ∈ (#[Go.ConcR.mk m] : Array Event), (MemAct.ofEvent e).touch? = none := by intro e he; simp at he; subst he; rcases hm with rfl | rfl <;> rfl
  refine h.goB hs rfl (.inl rfl) (fun _ _ => rfl) h.base.pay h.base.has (ok0_mute ht) (low_mute ht) (norel_of ?_) hy hd h5 h5' htag hmo (by rw [hp]; exact h.wg)
  intro e he; simp at he; subst he; rcases hm with rfl | rfl <;> simp [Go.ConcR.mk]

/-- WHATEVER STEP OF THE STARTER's UP TO ITS go STATEMENT. -/
theorem St.spawnUp (h : St P ty Wg C n LW Rw Dr μ gs w t j X x ow a q) (hn : n < 2147483647) (h6 : 6 ≤ x.tag) :
    ∃ m₁ ops μ', runT P (crowd gs w sl) 0 = (.next m₁, ops) ∧ Lt3 μ' μ ∧ InvA P ty Wg C n LW Rw Dr μ' m₁ (t ++ ops) := by
  have O := h.own
  have B := h.base
  have hmo := h.mo
  generalize hxx : x = x' at hmo
  have hj : ∀ ls rest, x.todo = ls :: rest → j < n := fun ls rest e => by have := h.num; rw [e] at this; simp at this; omega
  cases hmo with
  | go => rw [hxx] at h6; simp at h6
  | rg => rw [hxx] at h6; simp at h6
  | pk => rw [hxx] at h6; simp at h6
  | door => rw [hxx] at h6; simp at h6
  | lane hw =>
    rename_i ls rest L S M f
    have t9 : x.tag = 9 := by rw [hxx]
    rcases hw.split with hstop | ⟨hrun, g', w', es, hgo, hgn, f', hsub, hK⟩
    · obtain ⟨hrn, g', c, hMc, hpay, hgo, m2, hk⟩ := hstop
      have hC := O.cst
      have hjn := hj ls rest (by rw [hxx])
      obtain ⟨cs, hc1, hc2⟩ := hpay
      have hblk : ∀ b, b ≠ C → (w.setCell ⟨C, j, none⟩ (.chan (some c))).heap[b]? = w.heap[b]? := fun b hb => by
        simp only [World.setCell]; rw [Array.getElem?_modify, if_neg (fun e => hb e.symm)]
      have hCn : (w.setCell ⟨C, j, none⟩ (.chan (some c))).heap[C]? = some (.cells (cs.setIfInBounds j (.chan (some c))) Payload.ety) := by
        simp only [World.setCell]; rw [Array.getElem?_modify, if_pos rfl, hc1]; rfl
      have hWC : Wg ≠ C := fun e => by rw [← e, O.wg] at hC; cases hC
      refine h.goB (B0 := C) hgo (by simp [World.setCell]) (.inr rfl) hblk ⟨_, hCn, by simp [hc2]⟩ (fun i hi => ?_) ?_ ?_ ?_ (y := ⟨ls :: rest, L, S, M, 8, m2, 0⟩) (by rw [hxx]; exact ⟨rfl, rfl, rfl, rfl⟩) (by rw [hxx]; rfl) (by omega) (by simp) (by rw [t9]; simp) (.kd hk) ?_
      · have := B.has i hi
        unfold Has at this ⊢
        rw [← this]
        simp only [World.cell?, hCn, hc1]
        simp only [Option.isSome_none, Bool.false_eq_true, if_false]
        rw [Array.getElem?_setIfInBounds_ne (by omega)]
      · intro op hop
        obtain ⟨h1, e, he, ha⟩ := mem_ofEvents hop
        refine ⟨h1, fun z hz => .inr ?_⟩
        simp at he; subst he
        rw [ha] at hz
        simp [MemAct.ofEvent, MemAct.touch?] at hz
        subst hz
        refine ⟨fun hs => hWC (shn_blk hs).symm, fun k _ _ ho => ?_, fun _ k k1 kj hr => ?_⟩
        · have := O.hm ho.2.2; rw [show blk (.cell ⟨C, j, none⟩) = C from rfl, hC] at this; cases this
        · rcases hr.2 with ⟨_, hr⟩ | hr
          · exact (O.s (k - 1) (by omega) _ hr).2 rfl
          · cases hr
      · intro op hop z hz _
        obtain ⟨h1, e, he, ha⟩ := mem_ofEvents hop
        simp at he; subst he
        rw [ha] at hz
        simp [MemAct.ofEvent, MemAct.touch?] at hz
        subst hz
        exact O.lt (by rw [show blk (.cell ⟨C, j, none⟩) = C from rfl, hC]; exact Ow.noConfusion)
      · intro op hop
        obtain ⟨h1, e, he, ha⟩ := mem_ofEvents hop
        simp at he; subst he
        rw [ha]; simp [MemAct.ofEvent]
      · have : pendA 8 = pendA x.tag := by rw [t9]; rfl
        show WgAt ty Wg _ (((cntA j X + pendA 8 : Nat) : Int) * KK) 0
        rw [this]
        exact h.wg.of_block (hblk Wg hWC)
    · exact h.go0 hgo (by rw [hxx]; exact hgn) (y := ⟨ls :: rest, L, S, more M w w', 9, f', 0⟩) (by rw [hxx]; exact ⟨rfl, rfl, rfl, rfl, rfl⟩) (by rw [hxx]) (.lane hK) (by rw [hxx]; simp) (by rw [hxx]; exact hsub)
  | kd hw =>
    rename_i ls rest L S M f c
    rcases hw.split with hstop | ⟨hrun, g', w', es, hgo, hgn, f', hsub, hK⟩
    · obtain ⟨_, g', hgo, m2, hk⟩ := hstop
      exact h.mark0 hgo (.inl rfl) (y := ⟨ls :: rest, L, S, M, 7, m2, 1⟩) (by rw [hxx]; exact ⟨rfl, rfl, rfl, rfl⟩) (by rw [hxx]; rfl) (by omega) (by simp) (by rw [hxx]; simp) (by rw [hxx]; rfl) (.a1 hk)
    · exact h.go0 hgo (by rw [hxx]; exact hgn) (y := ⟨ls :: rest, L, S, more M w w', 8, f', 0⟩) (by rw [hxx]; exact ⟨rfl, rfl, rfl, rfl, rfl⟩) (by rw [hxx]) (.kd hK) (by rw [hxx]; simp) (by rw [hxx]; exact hsub)
  | a1 hw =>
    rename_i ls rest L S M f c
    rcases hw.split with hstop | ⟨hrun, g', w', es, hgo, hgn, f', hsub, hK⟩
    · obtain ⟨_, hall⟩ := hstop
      have hwg := h.wg
      have hp7 : pendA x.tag = 0 := by rw [hxx]; rfl
      rw [hp7, Nat.add_zero] at hwg
      have hcl : cntA j X ≤ j := by unfold cntA; exact Nat.le_trans (sumTo_le (c := 1) fun b _ => by split <;> omega) (by omega)
      have hjn := hj ls rest (by rw [hxx])
      obtain ⟨g', hgo, m2, hk⟩ := hall (cntA j X) (by omega) hwg
      have bk2 : ∀ e ∈ #[rd (stA Wg), wr (stA Wg)], Bk Wg e := by intro e he; simp at he; rcases he with rfl | rfl <;> exact bk_cell _ _ rfl
      have hCW : C ≠ (stA Wg).block := fun e => by have h1 := O.cst; rw [show C = Wg from e, O.wg] at h1; cases h1
      refine h.goB (B0 := Wg) hgo (by simp [World.setCell]) (.inl rfl) (aside_setCell w (stA Wg) _).block ?_ (fun i hi => ?_) (ok0_of_Bk bk2) ?_ (norel_of (norel_of_Bk bk2)) (y := ⟨ls :: rest, L, S, M, 6, m2, 1⟩) (by rw [hxx]; exact ⟨rfl, rfl, rfl, rfl⟩) (by rw [hxx]; rfl) (by omega) (by simp) (by rw [hxx]; simp) (.ke hk) ?_
      · obtain ⟨cs, h1, h2⟩ := B.pay
        exact ⟨cs, ((aside_setCell w (stA Wg) _).block C hCW).trans h1, h2⟩
      · exact (cell_of_block ((aside_setCell w (stA Wg) _).block C hCW) i).trans (B.has i hi)
      · intro op hop z hz _
        obtain ⟨h1, e, he, ha⟩ := mem_ofEvents hop
        rw [ha] at hz
        have hWlt : Wg < w.heap.size := O.lt (by rw [O.wg]; exact Ow.noConfusion)
        simp at he
        rcases he with rfl | rfl <;> (simp [rd, wr, MemAct.ofEvent, MemAct.touch?] at hz; subst hz; exact hWlt)
      · have := hwg.setSt (((cntA j X + 1 : Nat) : Int) * KK)
        show WgAt ty Wg _ (((cntA j X + pendA 6 : Nat) : Int) * KK) 0
        have e6 : pendA 6 = 1 := rfl
        rw [e6]
        simpa using this
    · exact h.go0 hgo (by rw [hxx]; exact hgn) (y := ⟨ls :: rest, L, S, more M w w', 7, f', 1⟩) (by rw [hxx]; exact ⟨rfl, rfl, rfl, rfl, rfl⟩) (by rw [hxx]) (.a1 hK) (by rw [hxx]; simp) (by rw [hxx]; exact hsub)
  | ke hw =>
    rename_i ls rest L S M f c
    rcases hw.split with hstop | ⟨hrun, g', w', es, hgo, hgn, f', hsub, hK⟩
    · obtain ⟨_, g', hgo, f2, hk⟩ := hstop
      exact h.mark0 hgo (.inr rfl) (y := ⟨ls :: rest, L, S, M, 5, f2, 0⟩) (by rw [hxx]; exact ⟨rfl, rfl, rfl, rfl⟩) (by rw [hxx]; rfl) (by omega) (by simp) (by rw [hxx]; simp) (by rw [hxx]; rfl) (.go hk)
    · exact h.go0 hgo (by rw [hxx]; exact hgn) (y := ⟨ls :: rest, L, S, more M w w', 6, f', 1⟩) (by rw [hxx]; exact ⟨rfl, rfl, rfl, rfl, rfl⟩) (by rw [hxx]) (.ke hK) (by rw [hxx]; simp) (by rw [hxx]; exact hsub)
end

end Go.Proofs.Ytkbfcaaihellfaa
