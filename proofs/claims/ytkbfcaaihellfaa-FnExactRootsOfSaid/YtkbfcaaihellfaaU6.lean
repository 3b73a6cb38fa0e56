/- Steps on the way to the law; each part says what it proves. -/
import Derived.Test.YtkbfcaaihellfaaU5

set_option linter.unusedSimpArgs false

/- Workers with lanes and their starter: the invariant and its measure; a worker's private steps. No program in sight. -/
namespace Go.Proofs.Ytkbfcaaihellfaa
open Go.Conc Go.ConcN
open Go.ConcR (KK wgBlock WgAt stA smA rd wr mk Payload Aside2 DC0 Bk g_of_ofEvents)
set_option linter.unusedVariables false
set_option linter.unusedSectionVars false

def pot (x : Wk) : Nat := if x.st = 9 then 15 + 4 * x.rows.length else if x.st = 8 then 13 + 4 * x.rows.length else x.st
def cst (ls : List (List Int)) : Nat := 30 + 4 * ls.length
def rank (x : Mn) : Nat := (x.todo.map cst).sum + 4 * (x.L.length + x.todo.length) + x.tag
def cntA (j : Nat) (X : Nat → Wk) : Nat := sumTo j fun i => if 5 ≤ (X i).st then 1 else 0
def pendA (tag : Nat) : Nat := if tag = 6 ∨ tag = 5 then 1 else 0
abbrev Mu := Nat × List Tr × Nat
abbrev Lt3 : Mu → Mu → Prop := Prod.Lex (· < ·) (Prod.Lex LtL (· < ·))
theorem lt3_wf : WellFounded Lt3 := (Prod.lex Nat.lt_wfRel (Prod.lex ⟨LtL, ⟨ltL_acc⟩⟩ Nat.lt_wfRel)).wf
theorem lt3_1 {a c a' c' : Nat} {b b' : List Tr} (h : a' < a) : Lt3 (a', b', c') (a, b, c) := Prod.Lex.left _ _ h
theorem lt3_2 {a c a' c' : Nat} {b b' : List Tr} (h : a' = a) (h2 : LtL b' b) : Lt3 (a', b', c') (a, b, c) := by subst h; exact Prod.Lex.right _ (Prod.Lex.left _ _ h2)
theorem lt3_3 {a c a' c' : Nat} {b b' : List Tr} (h : a' = a) (h2 : b' = b) (h3 : c' < c) : Lt3 (a', b', c') (a, b, c) := by subst h; subst h2; exact Prod.Lex.right _ (Prod.Lex.right _ h3)

/-- The starter's list of lanes and the workers: q lanes have been closed behind it. -/
structure Lnk (j : Nat) (X : Nat → Wk) (x : Mn) (q : Nat) : Prop where
  len : q + x.L.length = j
  at_ : ∀ p c ls, x.L[p]? = some (c, ls) → (X (q + p)).c = c ∧ (X (q + p)).rows = ls
  pk : x.tag = 3 → (X q).st = 9
  past : ∀ i, i < q → (X i).st ≤ 7
  sp : 5 ≤ x.tag → q = 0
  pos : x.tag = 3 → 0 < x.L.length

section
variable [Payload] (P : Program) (Sb : Nat → Prop) (ty : TypeId) (Wg C n LW : Nat) (Rw : List Int → Nat → Obj → Value → Prop) (Dr : (Nat → Prop) → (Nat → Prop) → Goroutine → World → Prop)

structure St (μ : Mu) (gs : Array Goroutine) (w : World) (t : Trace) (j : Nat) (X : Nat → Wk) (x : Mn) (ow : Nat → Ow) (a : Goroutine) (q : Nat) : Prop where
  ha : gs[0]? = some a
  mo : MOk P ty Wg C n LW Rw Dr j x a w
  base : Base P ty Wg C n LW Rw j gs w t X x.d
  own : OwnG Sb Wg C LW j w X x.M x.S ow
  wg : WgAt ty Wg w (((cntA j X + pendA x.tag : Nat) : Int) * KK) 0
  lnk : Lnk j X x q
  num : j + x.todo.length = n
  mu : μ = (rank x + sumTo j (fun i => pot (X i)), x.f :: lst j (fun i => (X i).f), sumTo j (fun i => (X i).m))
def InvA (μ : Mu) (gs : Array Goroutine) (w : World) (t : Trace) : Prop :=
  ∃ (j : Nat) (X : Nat → Wk) (x : Mn) (ow : Nat → Ow) (a : Goroutine) (q : Nat), St P Sb ty Wg C n LW Rw Dr μ gs w t j X x ow a q

variable {P Sb ty Wg C n LW Rw Dr}

section
variable {μ : Mu} {gs : Array Goroutine} {w w' : World} {sl : Option (Nat × Nat)} {t : Trace} {j q : Nat} {X : Nat → Wk} {x : Mn} {ow : Nat → Ow} {a g g' : Goroutine}

theorem St.at (h : St P Sb ty Wg C n LW Rw Dr μ gs w t j X x ow a q) (d : Nat) : St P Sb ty Wg C n LW Rw Dr μ gs (w.at d) t j X x ow a q :=
  ⟨h.ha, h.mo.rely (RM.at w d),
    ⟨h.base.size, fun i hi => let ⟨g, hg, hs⟩ := h.base.wk i hi; ⟨g, hg, hs.rely ⟨RM.at w d, RW.at w d⟩⟩, h.base.ct, h.base.low, h.base.norel, h.base.deaf0, h.base.deafW, h.base.rel, h.base.has, h.base.pay, h.base.ch, h.base.low7⟩,
    ⟨h.own.m, h.own.m0, h.own.s0, h.own.s, h.own.c, h.own.cc, h.own.wg, h.own.wg1, h.own.cst, h.own.fr, h.own.low, h.own.wk, h.own.out, h.own.sbl, h.own.shs, h.own.shw, h.own.sbc⟩, h.wg, h.lnk, h.num, h.mu⟩
theorem sumX (φ : Wk → Nat) {i : Nat} (hi : i < j) (y : Wk) : sumTo j (fun a => φ (upd X i y a)) + φ (X i) = sumTo j (fun a => φ (X a)) + φ y := sumTo_upd X y φ hi
theorem cnt_same {i : Nat} (hi : i < j) {y : Wk} (h : (5 ≤ y.st ↔ 5 ≤ (X i).st)) : cntA j (upd X i y) = cntA j X := by
  have := sumX (X := X) (fun x => if 5 ≤ x.st then 1 else 0) hi y
  unfold cntA
  by_cases e : 5 ≤ (X i).st
  · rw [if_pos e, if_pos (h.2 e)] at this; omega
  · rw [if_neg e, if_neg (fun h' => e (h.1 h'))] at this; omega
/-- The lane at which the starter is parked is open. -/
theorem St.open3 (h : St P Sb ty Wg C n LW Rw Dr μ gs w t j X x ow a q) (h3 : x.tag = 3) {c : Nat} {ls : List (List Int)} {rest : List (Nat × List (List Int))} (hL : x.L = (c, ls) :: rest) : (X q).c = c ∧ q < j ∧ ∃ s, w.heap[c]? = some (.chan 0 #[] false s s false) := by
  have h0 := h.lnk.at_ 0 c ls (by rw [hL]; rfl)
  have hq : q < j := by have := h.lnk.len; rw [hL] at this; simp at this; omega
  obtain ⟨s, hs⟩ := h.base.ch q hq
  rw [h.lnk.pk h3] at hs
  refine ⟨h0.1, hq, s, ?_⟩
  rw [← h0.1]; exact hs
/-- A worker's own step that leaves its stage: the invariant. -/
theorem St.goW (h : St P Sb ty Wg C n LW Rw Dr μ gs w t j X x ow a q) (hD : ∀ S M g w, Dr S M g w → g.status = .running) {i : Nat} (hi : i < j) (h9 : 7 ≤ (X i).st) (hd9 : (X i).d = 0) (hg : gs[i + 1]? = some g) {es : Array Event} (hs : stepG P false g w = .go g' w' es) (hp : Pvt ow (.wk i) w w')
    (hes : ∀ e ∈ es, EvM (X i).M (X i).S e) {x' : Wk} (hx : WOk P ty Wg C n LW Rw (i + 1) x' g' w') (hc : x'.c = (X i).c) (hr : x'.rows = (X i).rows) (hS : x'.S = (X i).S) (hM : ∀ b, x'.M b ↔ (X i).M b ∨ (w.heap.size ≤ b ∧ b < w'.heap.size)) (h9' : x'.st = (X i).st) (hd' : x'.d = 0)
    (hlt : Sub x'.f (X i).f) :
    ∃ gs₁ w₁ ops μ', (CS P Sb gs w (i + 1) gs₁ w₁ ops ∧ (gs₁.size ≠ gs.size → Deaf t 0 = 0)) ∧ Lt3 μ' μ ∧ InvA P Sb ty Wg C n LW Rw Dr μ' gs₁ w₁ (t ++ ops) := by
  have hrun := CS.go (P := P) (Sb := Sb) (i := i + 1) hg (by simpa using hs) (h.own.shy_okW hi (h.own.okW (fn := 0) (pos := "") hes))
  have hst : ∀ i', (upd X i x' i').st = (X i').st := fun i' => by
    by_cases e : i' = i
    · subst e; rw [upd_same, h9']
    · rw [upd_ne X x' e]
  have hcu : ∀ i', (upd X i x' i').c = (X i').c := fun i' => by
    by_cases e : i' = i
    · subst e; rw [upd_same, hc]
    · rw [upd_ne X x' e]
  have hru : ∀ i', (upd X i x' i').rows = (X i').rows := fun i' => by
    by_cases e : i' = i
    · subst e; rw [upd_same, hr]
    · rw [upd_ne X x' e]
  have kp : ∀ {b}, ow b ≠ .wk i → ow b ≠ .fr → w'.heap[b]? = w.heap[b]? := fun h1 h2 => h.own.pvtKeep hp h1 h2
  have e1 := sumX (X := X) pot hi x'
  have ep : pot x' = pot (X i) := by unfold pot; rw [h9', hr]
  refine ⟨_, _, _, _, ⟨hrun, fun e => absurd (by simp) e⟩, ?_, j, upd X i x', x, _, woken P g g' w' a, q, ?_, ?_, h.base.stepW h.own hi h9 hd9 hp hes hx hc hS hM h9' hd', h.own.newW hi hp.size hc hS hM (fun b hb => kp (by rw [h.own.stn hb]; exact Ow.noConfusion) (by rw [h.own.stn hb]; exact Ow.noConfusion)), ?_, ⟨h.lnk.len, fun p c ls hp' => ?_, fun h3 => ?_, fun i' hi' => ?_, h.lnk.sp, h.lnk.pos⟩, h.num, rfl⟩
  · rw [h.mu]
    exact lt3_2 (by omega) (.tail (lst_lt (by show Sub (upd X i x' i).f _; rw [upd_same]; exact hlt) (fun k hk => by show (upd X i x' k).f = _; rw [upd_ne X x' hk]) hi))
  · rw [get_map_set _ _ _ _ (by omega), h.ha]; rfl
  · refine h.mo.wokenOpen hD (h.own.rm0 (fun b hb => kp (hb.elim (fun e => by rw [e]; exact Ow.noConfusion) (fun e => by rw [e]; exact Ow.noConfusion)) (hb.elim (fun e => by rw [e]; exact Ow.noConfusion) (fun e => by rw [e]; exact Ow.noConfusion))) hp.size (h.own.pvtLive Ow.noConfusion hp)) fun h3 c ls rest hL => ?_
    obtain ⟨hcq, hq, s, hch⟩ := h.open3 h3 hL
    have : ow c = .ln := by rw [← hcq]; exact h.own.c q hq
    exact ⟨_, _, _, _, _, (kp (by rw [this]; exact Ow.noConfusion) (by rw [this]; exact Ow.noConfusion)).trans hch⟩
  · rw [cnt_same hi (by rw [h9'])]
    exact h.wg.of_block (kp (by rw [h.own.wg]; exact Ow.noConfusion) (by rw [h.own.wg]; exact Ow.noConfusion))
  · rw [hcu, hru]; exact h.lnk.at_ p c ls hp'
  · rw [hst]; exact h.lnk.pk h3
  · rw [hst]; exact h.lnk.past i' hi'
end
end

end Go.Proofs.Ytkbfcaaihellfaa

/- Workers with lanes and their starter: a meeting on a lane. No program in sight. -/
namespace Go.Proofs.Ytkbfcaaihellfaa
open Go.Conc Go.ConcN
open Go.ConcR (KK wgBlock WgAt stA smA rd wr mk Payload Aside2 DC0 Bk g_of_ofEvents)
set_option linter.unusedVariables false
set_option linter.unusedSectionVars false

section
variable [Payload] {P : Program} {Sb : Nat → Prop} {ty : TypeId} {Wg C n LW : Nat} {Rw : List Int → Nat → Obj → Value → Prop} {Dr : (Nat → Prop) → (Nat → Prop) → Goroutine → World → Prop}
variable {μ : Mu} {gs gs' : Array Goroutine} {w w' : World} {sl : Option (Nat × Nat)} {t : Trace} {j q : Nat} {X : Nat → Wk} {x : Mn} {ow : Nat → Ow} {a g g' : Goroutine}

theorem chan_get {w : World} {c cap s r b : Nat} {buf : Array Value} {cl tm : Bool} (h : b ≠ c) : (w.setChan c cap buf cl s r tm).heap[b]? = w.heap[b]? := by
  simp only [World.setChan]
  rw [Array.getElem?_setIfInBounds_ne (fun e => h e.symm)]
theorem chan_at {w : World} {c cap s r : Nat} {buf : Array Value} {cl tm : Bool} (h : c < w.heap.size) : (w.setChan c cap buf cl s r tm).heap[c]? = some (.chan cap buf cl s r tm) := by
  simp only [World.setChan]
  rw [Array.getElem?_setIfInBounds_self_of_lt h]
theorem chan_size {w : World} {c cap s r : Nat} {buf : Array Value} {cl tm : Bool} : (w.setChan c cap buf cl s r tm).heap.size = w.heap.size := by simp [World.setChan]

/-- Whose is what, where worker i's block r passes to the starter. -/
theorem OwnG.pass {M0 S0 : Nat → Prop} (O : OwnG Sb Wg C LW j w X M0 S0 ow) (hsz : w'.heap.size = w.heap.size) {i r : Nat} (hi : i < j) (hr : (X i).M r) {x' : Wk} (hc : x'.c = (X i).c) (hS : x'.S = (X i).S) (hM : ∀ b, x'.M b ↔ (X i).M b ∧ b ≠ r) (hk : ∀ b, Sb b → w'.heap[b]? = w.heap[b]?) :
    OwnG Sb Wg C LW j w' (upd X i x') (fun b => M0 b ∨ b = r) S0 (fun b => if b = r then .mn else ow b) := by
  have er := O.hm hr
  have old : ∀ {b}, (∀ i, ow b ≠ .wk i) → (if b = r then Ow.mn else ow b) = ow b := fun {b} h => if_neg fun e => h i (by rw [e, er])
  have hu : ∀ i' b, (upd X i x' i').S b → (X i').S b := fun i' b h => by
    by_cases e : i' = i
    · subst e; rw [upd_same, hS] at h; exact h
    · rwa [upd_ne X x' e] at h
  have hcu : ∀ i', (upd X i x' i').c = (X i').c := fun i' => by
    by_cases e : i' = i
    · subst e; rw [upd_same, hc]
    · rw [upd_ne X x' e]
  refine ⟨fun i' hi' b => ?_, fun b => ?_, fun b h => ?_, fun i' hi' b h => ?_, fun i' hi' => ?_, fun i' i'' h1 h2 h3 => ?_, ?_, fun b h => ?_, ?_, fun b => ?_, fun b h1 h2 => ?_, fun i' b h => ?_, fun i' hi' => ?_, O.sbl, O.shs, fun i' hi' b h => O.shw i' hi' b (hu i' b h), fun b hb => (O.sbc b hb).of (hk b hb)⟩
  · by_cases hb : b = r
    · subst hb
      rw [if_pos rfl]
      refine ⟨fun h => ?_, fun h => (by cases h)⟩
      by_cases e : i' = i
      · subst e; rw [upd_same, hM] at h; exact absurd rfl h.2
      · rw [upd_ne X x' e, O.m i' hi', er] at h; exact absurd (Ow.wk.inj h).symm e
    · rw [if_neg hb, ← O.m i' hi']
      by_cases e : i' = i
      · subst e; rw [upd_same, hM]; exact ⟨fun h => h.1, fun h => ⟨h, hb⟩⟩
      · rw [upd_ne X x' e]
  · by_cases hb : b = r
    · rw [if_pos hb]; exact ⟨fun _ => rfl, fun _ => .inr hb⟩
    · rw [if_neg hb, ← O.m0]; exact ⟨fun h => h.resolve_right hb, .inl⟩
  · have := O.s0 b h
    rw [old (by rw [this]; exact fun _ => Ow.noConfusion), this]
  · have := O.s i' hi' b (hu i' b h)
    rw [old (by rw [this.1]; exact fun _ => Ow.noConfusion)]; exact this
  · rw [hcu, old (by rw [O.c i' hi']; exact fun _ => Ow.noConfusion), O.c i' hi']
  · rw [hcu, hcu] at h3; exact O.cc i' i'' h1 h2 h3
  · rw [old (by rw [O.wg]; exact fun _ => Ow.noConfusion), O.wg]
  · by_cases hb : b = r
    · rw [if_pos hb] at h; cases h
    · rw [if_neg hb] at h; exact O.wg1 b h
  · rw [old (by rw [O.cst]; exact fun _ => Ow.noConfusion), O.cst]
  · rw [hsz, O.fr]
    by_cases hb : b = r
    · rw [if_pos hb, hb, er]; exact ⟨fun h => (by cases h), fun h => (by cases h)⟩
    · rw [if_neg hb]
  · have := O.low b h1 h2
    rw [old (by rw [this]; exact fun _ => Ow.noConfusion), this]
  · by_cases hb : b = r
    · rw [if_pos hb] at h; cases h
    · rw [if_neg hb] at h; exact O.wk i' b h
  · rw [upd_ne X x' (by omega)]; exact O.out i' hi'

/-- A MEETING on lane c: worker q (goroutine q + 1) hands its row r to the starter. -/
theorem St.meet (h : St P Sb ty Wg C n LW Rw Dr μ gs w t j X x ow a q) (hq : q < j) {c r s : Nat} {xs : List Int} {l : List (List Int)} {rest : List (Nat × List (List Int))} {o : Obj} {v : Value} {g₂ gm : Goroutine}
    (htodo : x.todo = []) (hL : x.L = (c, xs :: l) :: rest) (htag : (x.tag = 3 ∧ (X q).st = 9) ∨ (x.tag = 4 ∧ (X q).st = 8)) (hd : x.d = 0) (hdq : (X q).d = 0)
    (hr : (X q).M r) (ho : w.heap[r]? = some o) (hv : Rw xs r o v) (hK : WScr P ty Wg C n LW Rw (X q).S c (q + 1) l (fun b => (X q).M b ∧ b ≠ r) (Go.Conc.served g₂ undef) w)
    (hm : ∀ r o v w', ¬ (x.M r ∨ x.S r) → Rw xs r o v → w'.heap[r]? = some o → (∀ b, x.M b ∨ x.S b → w'.heap[b]? = w.heap[b]?) → w.heap.size ≤ w'.heap.size → (WgLive ty Wg w → WgLive ty Wg w') →
      ∃ f, Way P true ty Wg x.S (RStop P ty Wg Rw x.S c l (AftLane P ty Wg Rw Dr x.S rest)) f (fun b => x.M b ∨ b = r) (Go.Conc.served gm (recvd true v true)) w')
    (hch : w.heap[c]? = some (.chan 0 #[] false s s false)) (hsz : gs'.size = gs.size) (h0 : gs'[0]? = some (Go.Conc.served gm (recvd true v true))) (hw : gs'[q + 1]? = some (Go.Conc.served g₂ undef)) (hoth : ∀ b, b ≠ 0 → b ≠ q + 1 → gs'[b]? = gs[b]?)
    (fh : FuncId) (ph : String) (fj : FuncId) (pj : String) :
    ∃ μ', Lt3 μ' μ ∧ InvA P Sb ty Wg C n LW Rw Dr μ' gs' (w.setChan c 0 #[] false (s + 1) (s + 1) false) (t ++ met (q + 1) 0 fh ph fj pj c s 0) := by
  have B := h.base
  have O := h.own
  obtain ⟨hcq, hrows⟩ := h.lnk.at_ 0 c (xs :: l) (by rw [hL]; rfl)
  simp only [Nat.add_zero] at hcq hrows
  have oc : ow c = .ln := by rw [← hcq]; exact O.c q hq
  have clt : c < w.heap.size := O.lt (by rw [oc]; exact Ow.noConfusion)
  have er := O.hm hr
  have kp : ∀ {b}, ow b ≠ .ln → (w.setChan c 0 #[] false (s + 1) (s + 1) false).heap[b]? = w.heap[b]? := fun {b} hb => chan_get fun e => hb (by rw [e, oc])
  have hC := kp (b := C) (by rw [O.cst]; exact Ow.noConfusion)
  have hWg := kp (b := Wg) (by rw [O.wg]; exact Ow.noConfusion)
  have hlive : WgLive ty Wg w → WgLive ty Wg (w.setChan c 0 #[] false (s + 1) (s + 1) false) := live_of hWg
  -- the starter
  obtain ⟨f0, hf0⟩ := hm r o v (w.setChan c 0 #[] false (s + 1) (s + 1) false) (fun e => e.elim (fun e => by rw [(O.m0 r).1 e] at er; cases er) (fun e => by rw [O.s0 r e] at er; cases er)) hv ((kp (by rw [er]; exact Ow.noConfusion)).trans ho) (fun b hb => kp (hb.elim (fun hb => by rw [(O.m0 b).1 hb]; exact Ow.noConfusion) (fun hb => by rw [O.s0 b hb]; exact Ow.noConfusion))) (by rw [chan_size]; exact Nat.le_refl _) hlive
  -- the worker
  obtain ⟨f1, hf1⟩ := (WScr.rely P ty Wg C n LW Rw hK (w₁ := w.setChan c 0 #[] false (s + 1) (s + 1) false) ⟨fun b hb => kp (hb.elim (fun hb => by rw [O.hm hb.1]; exact Ow.noConfusion) (fun hb => by rw [O.hs hb]; exact Ow.noConfusion)), by rw [chan_size]; exact Nat.le_refl _, hlive⟩).way
  have hx' : ∀ (x' : Wk), x' = ⟨l, c, fun b => (X q).M b ∧ b ≠ r, (X q).S, 9, f1, 0, 0⟩ → ∃ μ', Lt3 μ' μ ∧ InvA P Sb ty Wg C n LW Rw Dr μ' gs' (w.setChan c 0 #[] false (s + 1) (s + 1) false) (t ++ met (q + 1) 0 fh ph fj pj c s 0) := by
    intro x' ex
    have xc : x'.c = (X q).c := by rw [ex]; exact hcq.symm
    have xS : x'.S = (X q).S := by rw [ex]
    have xM : ∀ b, x'.M b ↔ (X q).M b ∧ b ≠ r := fun b => by rw [ex]
    have x9 : x'.st = 9 := by rw [ex]
    have xr : x'.rows = l := by rw [ex]
    have s89 : (X q).st = 9 ∨ (X q).st = 8 := htag.imp (·.2) (·.2)
    have hcu : ∀ i', (upd X q x' i').c = (X i').c := fun i' => by
      by_cases e : i' = q
      · subst e; rw [upd_same, xc]
      · rw [upd_ne X x' e]
    have e1 := sumX (X := X) pot hq x'
    have p1 : pot x' = 15 + 4 * l.length := by unfold pot; rw [x9, xr]; simp
    have p2 : (X q).st = 9 → pot (X q) = 15 + 4 * (l.length + 1) := fun e => by unfold pot; rw [e, hrows]; simp
    have p3 : (X q).st = 8 → pot (X q) = 13 + 4 * (l.length + 1) := fun e => by unfold pot; rw [e, hrows]; simp
    have quiet : ∀ g, Deaf (t ++ met (q + 1) 0 fh ph fj pj c s 0) g = Deaf t g := fun g => Deaf_quiet (met_quiet (q + 1) 0 fh ph fj pj c s 0 g)
    refine ⟨(rank ⟨[], (c, l) :: rest, x.S, fun b => x.M b ∨ b = r, 4, f0, 0⟩ + sumTo j (fun i => pot (upd X q x' i)), f0 :: lst j (fun i => (upd X q x' i).f), sumTo j (fun i => (upd X q x' i).m)), ?_, j, upd X q x',
      ⟨[], (c, l) :: rest, x.S, fun b => x.M b ∨ b = r, 4, f0, 0⟩, _, _, q, h0, .rg hf0, ?_, O.pass (by rw [chan_size]) hq hr xc xS xM (fun b hb => kp (by rw [O.stn hb]; exact Ow.noConfusion)), ?_, ⟨?_, fun p c' ls' hp => ?_, fun h3 => ?_, fun i hi => ?_, fun h5 => ?_, fun h3 => ?_⟩, ?_, rfl⟩
    · rw [h.mu]
      refine lt3_1 ?_
      have er1 : rank ⟨[], (c, l) :: rest, x.S, fun b => x.M b ∨ b = r, 4, f0, 0⟩ = 4 * (rest.length + 1) + 4 := by simp [rank]
      have er2 : rank x = 4 * (rest.length + 1) + x.tag := by unfold rank; rw [htodo, hL]; simp
      rw [er1, er2]
      rcases htag with ⟨h3, h9⟩ | ⟨h4, h8⟩
      · have := p2 h9; omega
      · have := p3 h8; omega
    · -- Base
      have ct1 := ct_give B.ct (k := q + 1) (by omega) (by omega) (by rw [B.deaf0, hd]) (by rw [B.deafW q hq, hdq]) O.apart (fun l => l.isMemory = true ∧ blk l = r) (fun l hl => ⟨by omega, hl.1, by rw [hl.2]; exact hr⟩)
        (Own' := OwnF (upd X q x')) (fun k' l' => by
          unfold OwnF
          by_cases e : k' - 1 = q
          · rw [e, upd_same, xM]
            exact ⟨fun hh => ⟨⟨hh.1, hh.2.1, hh.2.2.1⟩, fun h2 => hh.2.2.2 h2.2⟩, fun hh => ⟨hh.1.1, hh.1.2.1, hh.1.2.2, fun e2 => hh.2 ⟨hh.1.2.1, e2⟩⟩⟩
          · rw [upd_ne X x' e]
            refine ⟨fun hh => ⟨hh, fun h2 => ?_⟩, fun hh => hh.1⟩
            have := O.hm hh.2.2
            rw [h2.2, er] at this
            exact e (Ow.wk.inj this).symm) fh ph fj pj c s 0
      have er' : RdF (upd X q x') = RdF X := by
        funext k l'
        unfold RdF
        by_cases e : k - 1 = q
        · rw [e, upd_same, xS, xc]
        · rw [upd_ne X x' e]
      refine ⟨by rw [hsz, B.size], fun i hi => ?_, by rw [er']; exact ct1, ?_, ?_, by rw [quiet, B.deaf0, hd], fun i hi => ?_, fun i hi hs => ?_, fun i hi => ?_, (let ⟨cs, h1, h2⟩ := B.pay; ⟨cs, hC.trans h1, h2⟩), fun i hi => ?_, fun i hi => ?_⟩
      · by_cases e : i = q
        · subst e
          refine ⟨_, hw, ?_⟩
          rw [upd_same, ex]; exact .way hf1
        · obtain ⟨y, hy, hsy⟩ := B.wk i hi
          refine ⟨y, by rw [hoth _ (by omega) (by omega)]; exact hy, ?_⟩
          rw [upd_ne X x' e]
          exact hsy.rely (O.ra hi (fun b hb => kp (hb.elim (fun hb => by rw [hb]; exact Ow.noConfusion) (fun hb => by rw [hb]; exact Ow.noConfusion))) (by rw [chan_size]; exact Nat.le_refl _) hlive)
      · intro i' a' ha' hm'
        rw [chan_size]
        exact B.low i' a' (touch_old (met_mute _ _ _ _ _ _ _ _ _) ha') hm'
      · refine B.norel.app fun op hop => ?_
        simp only [met, List.mem_toArray, List.mem_cons, List.not_mem_nil, or_false] at hop
        rcases hop with rfl | rfl | rfl | rfl <;> simp
      · rw [quiet, B.deafW i hi]
        by_cases e : i = q
        · subst e; rw [upd_same, ex, hdq]
        · rw [upd_ne X x' e]
      · have hne : i ≠ q := fun e => by subst e; rw [upd_same, x9] at hs; omega
        rw [upd_ne X x' hne] at hs
        obtain ⟨r', hr'⟩ := B.rel i hi hs
        exact ⟨r', hr'.appMute (met_mute _ _ _ _ _ _ _ _ _)⟩
      · rw [hcu]; exact (cell_of_block hC i).trans (B.has i hi)
      · rw [hcu]
        by_cases e : i = q
        · subst e; rw [upd_same, x9, hcq]; exact ⟨s + 1, chan_at clt⟩
        · rw [upd_ne X x' e]
          obtain ⟨s', hs'⟩ := B.ch i hi
          exact ⟨s', (chan_get fun e2 => e (O.cc i q hi hq (e2.trans hcq.symm))).trans hs'⟩
      · by_cases e : i = q
        · subst e; rw [upd_same, x9]; exact .inl rfl
        · rw [upd_ne X x' e]; exact B.low7 i hi
    · rw [cnt_same hq (by rw [x9]; rcases s89 with e | e <;> rw [e] <;> omega)]
      have : pendA x.tag = pendA 4 := by rcases htag with ⟨h3, _⟩ | ⟨h4, _⟩ <;> simp_all [pendA]
      have hwg := h.wg
      rw [this] at hwg
      exact hwg.of_block hWg
    · have := h.lnk.len; rw [hL] at this; simpa using this
    · cases p with
      | zero => simp at hp; obtain ⟨rfl, rfl⟩ := hp; rw [Nat.add_zero, upd_same, ex]; exact ⟨rfl, rfl⟩
      | succ p => rw [upd_ne X x' (by omega)]; exact h.lnk.at_ (p + 1) c' ls' (by rw [hL]; simpa using hp)
    · simp at h3
    · rw [upd_ne X x' (by omega)]; exact h.lnk.past i hi
    · simp at h5
    · simp
    · have := h.num; rw [htodo] at this; simpa using this
  exact hx' _ rfl
end

end Go.Proofs.Ytkbfcaaihellfaa

/- Workers with lanes and their starter: a worker behind the close of its lane. No program in sight. -/
namespace Go.Proofs.Ytkbfcaaihellfaa
open Go.Conc Go.ConcN
open Go.ConcR (KK wgBlock WgAt stA smA rd wr mk Payload Aside2 DC0 Bk g_of_ofEvents)
set_option linter.unusedVariables false
set_option linter.unusedSectionVars false

section
variable [Payload] {P : Program} {Sb : Nat → Prop} {ty : TypeId} {Wg C n LW : Nat} {Rw : List Int → Nat → Obj → Value → Prop} {Dr : (Nat → Prop) → (Nat → Prop) → Goroutine → World → Prop}
variable {μ : Mu} {gs gs' : Array Goroutine} {w w' : World} {sl : Option (Nat × Nat)} {t : Trace} {j q : Nat} {X : Nat → Wk} {x : Mn} {ow : Nat → Ow} {a g g' : Goroutine}

def Wk.to (y : Wk) (s m d : Nat) : Wk := ⟨y.rows, y.c, y.M, y.S, s, y.f, m, d⟩
theorem pot_to (y : Wk) (s m d : Nat) (h : s ≤ 7) : pot (y.to s m d) = s := by
  show (if s = 9 then _ else if s = 8 then _ else s) = s
  rw [if_neg (by omega), if_neg (by omega)]
def cnt1 (y : Wk) : Nat := if 5 ≤ y.st then 1 else 0
theorem OwnG.okW_low {M0 S0 : Nat → Prop} (O : OwnG Sb Wg C LW j w X M0 S0 ow) {k : Nat} {u : Trace} (k1 : 1 ≤ k) (kj : k ≤ j) (hu : ∀ op ∈ u, OkW (ShN Wg) (OwnF X) (RdF X) k op) : ∀ op ∈ u, ∀ y, op.act.touch? = some y → y.loc.isMemory = true → blk y.loc < w.heap.size := by
  intro op hop y hy _
  rcases (hu op hop).2 y hy with ⟨h, _⟩ | h | ⟨h, _⟩
  · rw [shn_blk h]; exact O.lt (by rw [O.wg]; exact Ow.noConfusion)
  · exact O.lt (by rw [O.hm h.2.2]; exact Ow.noConfusion)
  · rcases h.2 with ⟨_, h⟩ | h
    · exact O.lt (by rw [O.hs h]; exact Ow.noConfusion)
    · rw [h]; exact O.lt (by rw [show blk (.obj (X (k - 1)).c) = (X (k - 1)).c from rfl, O.c (k - 1) (by omega)]; exact Ow.noConfusion)
theorem fams {i : Nat} {x' : Wk} (hc : x'.c = (X i).c) (hS : x'.S = (X i).S) (hM : x'.M = (X i).M) : OwnF (upd X i x') = OwnF X ∧ RdF (upd X i x') = RdF X := by
  constructor
  · funext k l
    unfold OwnF
    by_cases e : k - 1 = i
    · rw [e, upd_same, hM]
    · rw [upd_ne X x' e]
  · funext k l
    unfold RdF
    by_cases e : k - 1 = i
    · rw [e, upd_same, hS, hc]
    · rw [upd_ne X x' e]
theorem OwnG.same {M0 S0 : Nat → Prop} (O : OwnG Sb Wg C LW j w X M0 S0 ow) (hsz : w'.heap.size = w.heap.size) {i : Nat} (hi : i < j) {x' : Wk} (hc : x'.c = (X i).c) (hS : x'.S = (X i).S) (hM : x'.M = (X i).M) (hk : ∀ b, Sb b → w'.heap[b]? = w.heap[b]?) : OwnG Sb Wg C LW j w' (upd X i x') M0 S0 ow := by
  have hm : ∀ i', (upd X i x' i').M = (X i').M := fun i' => by
    by_cases e : i' = i
    · subst e; rw [upd_same, hM]
    · rw [upd_ne X x' e]
  have hs : ∀ i', (upd X i x' i').S = (X i').S := fun i' => by
    by_cases e : i' = i
    · subst e; rw [upd_same, hS]
    · rw [upd_ne X x' e]
  have hcu : ∀ i', (upd X i x' i').c = (X i').c := fun i' => by
    by_cases e : i' = i
    · subst e; rw [upd_same, hc]
    · rw [upd_ne X x' e]
  exact ⟨fun i' h b => by rw [hm]; exact O.m i' h b, O.m0, O.s0, fun i' h b => by rw [hs]; exact O.s i' h b, fun i' h => by rw [hcu]; exact O.c i' h, fun i' i'' h1 h2 => by rw [hcu, hcu]; exact O.cc i' i'' h1 h2, O.wg, O.wg1, O.cst, fun b => by rw [hsz]; exact O.fr b, O.low, O.wk,
    fun i' h => by rw [hm, hs, hcu]; exact O.out i' h, O.sbl, O.shs, fun i' h b hb => O.shw i' h b (by rw [← hs]; exact hb), fun b hb => (O.sbc b hb).of (hk b hb)⟩
/-- A worker's step by which at most one shared block turns (the group's, or its own lane at the close); its sets stand. -/
theorem St.goT (h : St P Sb ty Wg C n LW Rw Dr μ gs w t j X x ow a q) {i B0 : Nat} (hi : i < j) (hg : gs[i + 1]? = some g) {es : Array Event} (hs : stepG P false g w = .go g' w' es)
    (hsz : w'.heap.size = w.heap.size) (hB : B0 = Wg ∨ B0 = (X i).c) (hblk : ∀ b, b ≠ B0 → w'.heap[b]? = w.heap[b]?) {x' : Wk} (hc : x'.c = (X i).c) (hr : x'.rows = (X i).rows) (hS : x'.S = (X i).S) (hM : x'.M = (X i).M)
    (h7 : x'.st ≤ 7) (hcases : x'.st = 7 ∨ x'.st = 6 ∨ x'.st = 5 ∨ x'.st = 1) (hch : ∃ s, w'.heap[(X i).c]? = some (.chan 0 #[] true s s false)) (hx : WOk P ty Wg C n LW Rw (i + 1) x' g' w')
    (hok : ∀ op ∈ MemOp.ofEvents (i + 1) g.frame.fn g.frame.place es, OkW (ShN Wg) (OwnF X) (RdF X) (i + 1) op) (hnr : ∀ op ∈ MemOp.ofEvents (i + 1) g.frame.fn g.frame.place es, op.act ≠ .mark (.release (stA Wg))) (hdf : deafBehind (X i).d es = x'.d)
    (hrel : x'.st ≤ 6 → ∃ r, RelS Wg (t ++ MemOp.ofEvents (i + 1) g.frame.fn g.frame.place es) (i + 1) r)
    (hwg : ∃ v : Int, v = (((cntA j (upd X i x') + pendA x.tag : Nat) : Int) * KK) ∧ WgAt ty Wg w' v 0)
    {y : Mn} (hy : y.todo = x.todo ∧ y.L = x.L ∧ y.S = x.S ∧ y.M = x.M ∧ y.d = x.d ∧ pendA y.tag = pendA x.tag ∧ (y.tag = 3 → x.tag = 3 ∧ (X q).st = 9 ∧ q ≠ i) ∧ (5 ≤ y.tag → 5 ≤ x.tag)) (hmo : MOk P ty Wg C n LW Rw Dr j y (woken P g g' w' a) w')
    (hμ : rank y + pot x' < rank x + pot (X i) ∨ (rank y + pot x' = rank x + pot (X i) ∧ y.f = x.f ∧ x'.f = (X i).f ∧ x'.m < (X i).m)) :
    ∃ gs₁ w₁ ops μ', (CS P Sb gs w (i + 1) gs₁ w₁ ops ∧ (gs₁.size ≠ gs.size → Deaf t 0 = 0)) ∧ Lt3 μ' μ ∧ InvA P Sb ty Wg C n LW Rw Dr μ' gs₁ w₁ (t ++ ops) := by
  have B := h.base
  have O := h.own
  have hrun := CS.go (P := P) (Sb := Sb) (i := i + 1) hg (by simpa using hs) (O.shy_okW hi hok)
  have hcu : ∀ i', (upd X i x' i').c = (X i').c := fun i' => by
    by_cases e : i' = i
    · subst e; rw [upd_same, hc]
    · rw [upd_ne X x' e]
  have hru : ∀ i', (upd X i x' i').rows = (X i').rows := fun i' => by
    by_cases e : i' = i
    · subst e; rw [upd_same, hr]
    · rw [upd_ne X x' e]
  have ob : ow B0 = .wg ∨ ow B0 = .ln := by
    rcases hB with e | e
    · rw [e]; exact .inl O.wg
    · rw [e]; exact .inr (O.c i hi)
  have kp : ∀ {b}, ow b ≠ .wg → ow b ≠ .ln → w'.heap[b]? = w.heap[b]? := fun {b} h1 h2 => hblk b fun e => by subst e; rcases ob with e | e; exact h1 e; exact h2 e
  have hC := kp (b := C) (by rw [O.cst]; exact Ow.noConfusion) (by rw [O.cst]; exact Ow.noConfusion)
  obtain ⟨v, hv, hwg⟩ := hwg
  have hlive : WgLive ty Wg w → WgLive ty Wg w' := fun _ => ⟨_, _, hwg⟩
  obtain ⟨hy1, hy2, hy3, hy4, hy5, hy6, hy7, hy8⟩ := hy
  obtain ⟨f1, f2⟩ := fams (X := X) hc hS hM
  have e1 := sumX (X := X) pot hi x'
  have e3 := sumX (X := X) Wk.m hi x'
  have chOth : ∀ i', i' < j → i' ≠ i → w'.heap[(X i').c]? = w.heap[(X i').c]? := fun i' hi' hne => hblk _ fun e => by
    rcases hB with e' | e'
    · have := O.c i' hi'; rw [e, e', O.wg] at this; cases this
    · exact hne (O.cc i' i hi' hi (e.trans e'))
  refine ⟨_, _, _, (rank y + sumTo j (fun b => pot (upd X i x' b)), y.f :: lst j (fun b => (upd X i x' b).f), sumTo j (fun b => (upd X i x' b).m)), ⟨hrun, fun e => absurd (by simp) e⟩, ?_, j, upd X i x', y, ow, woken P g g' w' a, q, ?_, hmo, ?_, by rw [hy3, hy4]; exact O.same hsz hi hc hS hM (fun b hb => kp (by rw [O.stn hb]; exact Ow.noConfusion) (by rw [O.stn hb]; exact Ow.noConfusion)), by rw [hy6, ← hv]; exact hwg, ⟨by rw [hy2]; exact h.lnk.len, fun p c ls hp => ?_, fun h3 => ?_, fun i' hi' => ?_, fun h5 => h.lnk.sp (hy8 h5), fun h3 => by rw [hy2]; exact h.lnk.pos (hy7 h3).1⟩, by rw [hy1]; exact h.num, rfl⟩
  · rw [h.mu]
    rcases hμ with h1 | ⟨h1, h2, h3, h4⟩
    · exact lt3_1 (by omega)
    · refine lt3_3 (by omega) ?_ (by omega)
      rw [h2, lst_congr (φ := fun b => (upd X i x' b).f) (ψ := fun b => (X b).f) fun k _ => ?_]
      by_cases e : k = i
      · subst e; show (upd X k x' k).f = _; rw [upd_same, h3]
      · show (upd X i x' k).f = _; rw [upd_ne X x' e]
  · rw [get_map_set _ _ _ _ (by omega), h.ha]; rfl
  · refine ⟨by simp [B.size], fun i' hi' => ?_, by rw [f1, f2]; exact B.ct.appW O.apart (by omega) (by omega) hok, low_app B.low (by rw [hsz]; exact Nat.le_refl _) (by rw [hsz]; exact O.okW_low (by omega) (by omega) hok), B.norel.app hnr, by rw [Deaf_other t (by omega) _ g_of_ofEvents, B.deaf0, hy5], fun i' hi' => ?_, fun i' hi' hst => ?_, fun i' hi' => by rw [hcu]; exact (cell_of_block hC i').trans (B.has i' hi'),
      (let ⟨cs, h1, h2⟩ := B.pay; ⟨cs, hC.trans h1, h2⟩), fun i' hi' => ?_, fun i' hi' => ?_⟩
    · by_cases e : i' = i
      · subst e
        exact ⟨g', get_map_set_same _ _ _ (by rw [B.size]; omega), by rw [upd_same]; exact hx⟩
      · rw [upd_ne X x' e]
        exact B.others O hi' (by omega) (O.ra hi' (fun b hb => kp (hb.elim (fun e => by rw [e]; exact Ow.noConfusion) (fun e => by rw [e]; exact Ow.noConfusion)) (hb.elim (fun e => by rw [e]; exact Ow.noConfusion) (fun e => by rw [e]; exact Ow.noConfusion))) (by rw [hsz]; exact Nat.le_refl _) hlive) (chOth i' hi' e)
    · by_cases e : i' = i
      · subst e; rw [Deaf_own, B.deafW i' hi', upd_same]; exact hdf
      · rw [Deaf_other t (by omega) _ g_of_ofEvents, B.deafW i' hi', upd_ne X x' e]
    · by_cases e : i' = i
      · subst e; rw [upd_same] at hst; exact hrel hst
      · rw [upd_ne X x' e] at hst
        obtain ⟨r, hr⟩ := B.rel i' hi' hst
        exact ⟨r, hr.appOther g_of_ofEvents (by omega)⟩
    · rw [hcu]
      by_cases e : i' = i
      · subst e; rw [upd_same, show decide (x'.st ≤ 7) = true from decide_eq_true h7]; exact hch
      · rw [upd_ne X x' e, chOth i' hi' e]; exact B.ch i' hi'
    · by_cases e : i' = i
      · subst e; rw [upd_same]; omega
      · rw [upd_ne X x' e]; exact B.low7 i' hi'
  · rw [hcu, hru]; exact h.lnk.at_ p c ls (by rw [← hy2]; exact hp)
  · obtain ⟨_, h9, hne⟩ := hy7 h3
    rw [upd_ne X x' hne]; exact h9
  · by_cases e : i' = i
    · subst e; rw [upd_same]; exact h7
    · rw [upd_ne X x' e]; exact h.lnk.past i' hi'

/-- The starter where another's step turns neither its blocks nor the lane at which it is parked. -/
theorem St.mainStands (h : St P Sb ty Wg C n LW Rw Dr μ gs w t j X x ow a q) (hD : ∀ S M g w, Dr S M g w → g.status = .running) {B0 : Nat} (hsz : w'.heap.size = w.heap.size) (ob : ow B0 = .wg ∨ ow B0 = .ln) (hblk : ∀ b, b ≠ B0 → w'.heap[b]? = w.heap[b]?) (hlive : WgLive ty Wg w → WgLive ty Wg w')
    (h3 : x.tag = 3 → (X q).c ≠ B0) : MOk P ty Wg C n LW Rw Dr j x (woken P g g' w' a) w' := by
  have kp : ∀ {b}, ow b ≠ .wg → ow b ≠ .ln → w'.heap[b]? = w.heap[b]? := fun {b} h1 h2 => hblk b fun e => by subst e; rcases ob with e | e; exact h1 e; exact h2 e
  refine h.mo.wokenOpen hD (h.own.rm0 (fun b hb => kp (hb.elim (fun e => by rw [e]; exact Ow.noConfusion) (fun e => by rw [e]; exact Ow.noConfusion)) (hb.elim (fun e => by rw [e]; exact Ow.noConfusion) (fun e => by rw [e]; exact Ow.noConfusion))) (by rw [hsz]; exact Nat.le_refl _) hlive) fun h3' c ls rest hL => ?_
  obtain ⟨hcq, hq, s, hch⟩ := h.open3 h3' hL
  exact ⟨_, _, _, _, _, (hblk c (by rw [← hcq]; exact h3 h3')).trans hch⟩

/-- WHATEVER STEP OF A WORKER's BEHIND THE CLOSE. -/
theorem St.tail (h : St P Sb ty Wg C n LW Rw Dr μ gs w t j X x ow a q) (hD : ∀ S M g w, Dr S M g w → g.status = .running) (hn : n < 2147483647) {i : Nat} (hi : i < j) (hg : gs[i + 1]? = some g) (hrun : g.status = .running) (h7 : (X i).st ≤ 7) :
    ∃ gs₁ w₁ ops μ', (CS P Sb gs w (i + 1) gs₁ w₁ ops ∧ (gs₁.size ≠ gs.size → Deaf t 0 = 0)) ∧ Lt3 μ' μ ∧ InvA P Sb ty Wg C n LW Rw Dr μ' gs₁ w₁ (t ++ ops) := by
  have B := h.base
  have O := h.own
  obtain ⟨g₁, hg₁, hs⟩ := B.wk i hi
  obtain rfl : g = g₁ := by rw [hg] at hg₁; exact Option.some.inj hg₁
  have hdk : Deaf t (i + 1) = (X i).d := B.deafW i hi
  have hq3 : x.tag = 3 → (X q).st = 9 ∧ q ≠ i := fun h3 => ⟨h.lnk.pk h3, fun e => by have := h.lnk.pk h3; rw [e] at this; omega⟩
  have hch := B.ch i hi
  rw [show decide ((X i).st ≤ 7) = true from decide_eq_true h7] at hch
  have cWg : (X i).c ≠ Wg := fun e => by have := O.c i hi; rw [e, O.wg] at this; cases this
  -- a step by which at most the group's block turns
  have book : ∀ {g' : Goroutine} {w' : World} {es : Array Event} {s' m' dd' v' : Nat}, stepG P false g w = .go g' w' es → Aside Wg w w' → v' = cntA j (upd X i ((X i).to s' m' (dd'))) + pendA x.tag → WgAt ty Wg w' ((v' : Int) * KK) 0 →
      (∀ op ∈ MemOp.ofEvents (i + 1) g.frame.fn g.frame.place es, OkW (ShN Wg) (OwnF X) (RdF X) (i + 1) op) → (∀ e ∈ es, e.loc ≠ .mark (.release (stA Wg))) → deafBehind (X i).d es = dd' → (s' ≤ 6 → ∃ r, RelS Wg (t ++ MemOp.ofEvents (i + 1) g.frame.fn g.frame.place es) (i + 1) r) →
      WOk P ty Wg C n LW Rw (i + 1) ((X i).to s' m' (dd')) g' w' → (s' = 7 ∨ s' = 6 ∨ s' = 5 ∨ s' = 1) → (s' < (X i).st ∨ (s' = (X i).st ∧ m' < (X i).m)) →
      ∃ gs₁ w₁ ops μ', (CS P Sb gs w (i + 1) gs₁ w₁ ops ∧ (gs₁.size ≠ gs.size → Deaf t 0 = 0)) ∧ Lt3 μ' μ ∧ InvA P Sb ty Wg C n LW Rw Dr μ' gs₁ w₁ (t ++ ops) := by
    intro g' w' es s' m' dd' v' hgo hAs hv' hwg' hok hnr hdf hrel hx hst hlt
    have hp : pot (X i) = (X i).st := by unfold pot; rw [if_neg (by omega), if_neg (by omega)]
    have hp' : pot ((X i).to s' m' (dd')) = s' := pot_to _ _ _ _ (by omega)
    refine h.goT hi hg hgo (x' := (X i).to s' m' dd') hAs.size (.inl rfl) hAs.block rfl rfl rfl rfl (by show s' ≤ 7; omega) hst (by obtain ⟨s, hs⟩ := hch; exact ⟨s, (hAs.block _ cWg).trans hs⟩) hx hok (norel_of hnr) hdf hrel ⟨_, by rw [← hv'], hwg'⟩
      (y := x) ⟨rfl, rfl, rfl, rfl, rfl, rfl, fun h3 => ⟨h3, hq3 h3⟩, id⟩ (h.mainStands hD hAs.size (.inl O.wg) hAs.block (fun _ => ⟨_, _, hwg'⟩) fun h3 e => ?_) ?_
    · have := O.c q (by have := h.lnk.len; have := h.lnk.pos h3; omega); rw [e, O.wg] at this; cases this
    · rw [hp, hp']
      rcases hlt with h1 | ⟨h1, h2⟩
      · exact .inl (by omega)
      · exact .inr ⟨by omega, rfl, rfl, by show m' < (X i).m; omega⟩
  have same : ∀ {s' m' dd' : Nat}, (5 ≤ s' ↔ 5 ≤ (X i).st) → cntA j X + pendA x.tag = cntA j (upd X i ((X i).to s' m' (dd'))) + pendA x.tag := fun hs' => by rw [cnt_same hi hs']
  have hwgN := h.wg
  generalize hX : X i = y at hs
  cases hs with
  | way _ => rw [hX] at h7; simp at h7
  | park => rw [hX] at h7; simp at h7
  | tail7 hgs =>
    rcases Goes.cases hgs with hstop | ⟨m', rfl, hstep⟩
    · obtain ⟨_, hhas, g', hgo, m₂, hk⟩ := hstop w (RW.refl w)
      refine book (s' := 6) (m' := m₂) (dd' := 0) hgo (.refl Wg w) (same (by rw [hX]; simp)) hwgN (okW_none (by intro e he; simp at he; subst he; rfl)) (by intro e he; simp at he; subst he; simp [Go.ConcR.mk]) (by rw [hX]; rfl) (fun _ => ⟨t.size, RelS.new (by rw [hdk, hX]) _ _⟩) ?_ (by omega) (.inl (by rw [hX]; simp))
      rw [hX]; exact .tail (by omega) (.k1 hk)
    · obtain ⟨g', w', es, hgo, ⟨e1, e2⟩, hg'⟩ := hstep w (RW.refl w)
      rw [e1, e2] at hgo
      rw [e1] at hg'
      refine book (s' := 7) (m' := m') (dd' := 0) hgo (.refl Wg w) (same (by rw [hX])) hwgN (okW_none (by simp)) (by simp) (by rw [hX]; rfl) (fun h => by omega) ?_ (by omega) (.inr ⟨by rw [hX], by rw [hX]; simp⟩)
      rw [hX]; exact .tail7 hg'
  | tail h6 hsit =>
    rename_i s m d
    have hst : (X i).st = s := by rw [hX]
    have hm : (X i).m = m := by rw [hX]
    have hdd : (X i).d = d := by rw [hX]
    obtain ⟨rr, hrr⟩ := B.rel i hi (by omega)
    have idle : ∀ {g' : Goroutine} {m' : Nat}, stepG P false g w = .go g' w #[] → (s = 6 ∨ s = 5 ∨ s = 1) → m = m' + 1 → WSit P ty Wg C n no no LW (i + 1) (.chan (some (X i).c)) s m' d g' w →
        ∃ gs₁ w₁ ops μ', (CS P Sb gs w (i + 1) gs₁ w₁ ops ∧ (gs₁.size ≠ gs.size → Deaf t 0 = 0)) ∧ Lt3 μ' μ ∧ InvA P Sb ty Wg C n LW Rw Dr μ' gs₁ w₁ (t ++ ops) := by
      intro g' m' hgo hs3 hmm hsit'
      refine book (s' := s) (m' := m') (dd' := d) hgo (.refl Wg w) (same (by rw [hst])) hwgN (okW_none (by simp)) (by simp) (by rw [hdd]; rfl) (fun _ => ⟨rr, hrr.appNot (by simp [MemOp.ofEvents])⟩) ?_ (by omega) (.inr ⟨hst.symm, by omega⟩)
      rw [hX] at hsit' ⊢; exact .tail h6 hsit'
    have low7 := B.low7 i hi
    rw [hst] at low7
    cases hsit with
    | r0 _ => omega
    | d2 _ => omega
    | d3 _ => omega
    | d4 _ => omega
    | k1 hgs =>
      rcases Goes.cases hgs with hstop | ⟨m', rfl, hstep⟩
      · obtain ⟨_, g', hgo, m₂, hk⟩ := hstop w (RW.refl w)
        have hbk : ∀ e ∈ (#[Go.ConcR.mk Mark.disable] : Array Event), Bk Wg e := by intro e he; simp at he; subst he; exact .inl rfl
        refine book (s' := 5) (m' := m₂) (dd' := 1) hgo (.refl Wg w) (same (by rw [hst]; simp)) hwgN (okW_of_Bk hbk) (norel_of_Bk hbk) (by rw [hdd]; rfl) (fun _ => ⟨rr, hrr.book (hdk.trans hdd) _ _ hbk (by intro jx e he; exact .inl (by have := Array.mem_of_getElem? he; simp at this; subst this; rfl))⟩) ?_ (by omega) (.inl (by omega))
        rw [hX]; exact .tail (by omega) (.d1 hk)
      · obtain ⟨g', w', es, hgo, ⟨e1, e2⟩, hg'⟩ := hstep w (RW.refl w)
        rw [e1, e2] at hgo
        rw [e1] at hg'
        exact idle hgo (.inl rfl) rfl (by rw [hX]; exact .k1 hg')
    | d1 hgs =>
      rcases Goes.cases hgs with hstop | ⟨m', rfl, hstep⟩
      · obtain ⟨_, hall⟩ := hstop w (RW.refl w)
        have bk2 : ∀ e ∈ #[rd (stA Wg), wr (stA Wg)], Bk Wg e := by intro e he; simp at he; rcases he with rfl | rfl <;> exact bk_cell _ _ rfl
        have df2 : ∀ jx e, (#[rd (stA Wg), wr (stA Wg)] : Array Event)[jx]? = some e → (MemAct.ofEvent e).touch? = none ∨ 0 < deafBehind 1 ((#[rd (stA Wg), wr (stA Wg)] : Array Event).extract 0 jx) := by
          intro jx e he
          match jx, he with
          | 0, _ => exact .inr (by simp [deafBehind])
          | 1, _ => exact .inr (by simp [deafBehind, rd])
          | jx + 2, he => simp at he
        -- the count
        have hcn : ∀ X' : Nat → Wk, cntA j X' = sumTo j (fun b => cnt1 (X' b)) := fun _ => rfl
        have hci : cnt1 (X i) = 1 := by unfold cnt1; rw [hst]; rfl
        have hc1 : ∀ m, sumTo j (fun b => cnt1 (upd X i ((X i).to 1 m 1) b)) + 1 = sumTo j (fun b => cnt1 (X b)) := fun m => by have := sumX (X := X) cnt1 hi ((X i).to 1 m 1); rw [hci] at this; exact this
        have hcl : cntA j X ≤ j := by unfold cntA; exact Nat.le_trans (sumTo_le (c := 1) fun b _ => by split <;> omega) (by omega)
        have hpd : pendA x.tag ≤ 1 := by unfold pendA; split <;> omega
        have hjn : j + pendA x.tag ≤ n := by
          have := h.num
          by_cases e : x.tag = 6 ∨ x.tag = 5
          · have : 0 < x.todo.length := by
              have hmo := h.mo
              generalize hx' : x = x' at hmo
              cases hmo <;> simp [hx'] at e ⊢
            have : pendA x.tag = 1 := if_pos e
            omega
          · have : pendA x.tag = 0 := if_neg e
            omega
        have hc0 := hc1 0
        obtain ⟨v, hv⟩ : ∃ v, cntA j X + pendA x.tag = v + 1 := ⟨cntA j X + pendA x.tag - 1, by rw [hcn]; omega⟩
        rw [hv] at hwgN
        have hw1 : WgAt ty Wg w (((v : Nat) + 1) * KK + ((0 : Nat) : Int)) 0 := by simpa using hwgN
        obtain ⟨g', hgo, _, hqq⟩ := hall v 0 (by omega) (by omega) hw1
        obtain ⟨qq, hqq⟩ := hqq (by omega)
        have hc2 := hc1 qq
        refine book (s' := 1) (m' := qq) (dd' := 1) (v' := v) hgo (aside_setCell w (stA Wg) _) (by rw [hcn] at hv ⊢; omega) (by have := hwgN.setSt (((v : Nat) : Int) * KK + ((0 : Nat) : Int)); simpa using this) (okW_of_Bk bk2) (norel_of_Bk bk2) (by rw [hdd]; rfl)
          (fun _ => ⟨rr, hrr.book (hdk.trans hdd) _ _ bk2 df2⟩) ?_ (by omega) (.inl (by omega))
        rw [hX]; exact .tail (by omega) (.quit hqq)
      · obtain ⟨g', w', es, hgo, ⟨e1, e2⟩, hg'⟩ := hstep w (RW.refl w)
        rw [e1, e2] at hgo
        rw [e1] at hg'
        exact idle hgo (.inr (.inl rfl)) rfl (by rw [hX]; exact .d1 hg')
    | quit hgs =>
      cases m with
      | zero => rw [hgs.1] at hrun; cases hrun
      | succ qq =>
        rcases hgs with ⟨hf, _⟩ | ⟨_, g', es, hmute, hstep, hqq⟩
        · rw [hf] at hrun; cases hrun
        · have hbk : ∀ e ∈ es, Bk Wg e := fun e he => Go.ConcR.bk_of_mute (hmute e he)
          have hno : ∀ jx e, es[jx]? = some e → (MemAct.ofEvent e).touch? = none ∨ 0 < deafBehind d (es.extract 0 jx) := fun jx e he => .inl (by
            rcases Go.ConcR.bk_of_mute (Wg := Wg) (hmute e (Array.mem_of_getElem? he)) with h1 | h1 | ⟨a, wr, rfl, _⟩
            · rw [Go.ConcR.ofEvent_loc_mark h1]; rfl
            · rw [Go.ConcR.ofEvent_loc_mark h1]; rfl
            · have := hmute _ (Array.mem_of_getElem? he); simp [Event.mute] at this)
          refine book (s' := 1) (m' := qq) (dd' := deafBehind d es) (hstep w) (.refl Wg w) (same (by rw [hst])) hwgN (okW_of_Bk hbk) (norel_of_Bk hbk) (by rw [hdd]) (fun _ => ⟨rr, hrr.book (hdk.trans hdd) _ _ hbk hno⟩) ?_ (by omega) (.inr ⟨hst.symm, by omega⟩)
          rw [hX]; exact .tail (by omega) (.quit hqq)
end

end Go.Proofs.Ytkbfcaaihellfaa

/- Workers with lanes and their starter: a worker up to the close of its lane: private steps, allocations, sends, the close. No program in sight. -/
namespace Go.Proofs.Ytkbfcaaihellfaa
open Go.Conc Go.ConcN
open Go.ConcR (KK wgBlock WgAt stA smA rd wr mk Payload Aside2 DC0 Bk g_of_ofEvents)
set_option linter.unusedVariables false
set_option linter.unusedSectionVars false

section
variable [Payload] {P : Program} {Sb : Nat → Prop} {ty : TypeId} {Wg C n LW : Nat} {Rw : List Int → Nat → Obj → Value → Prop} {Dr : (Nat → Prop) → (Nat → Prop) → Goroutine → World → Prop}
variable {μ : Mu} {gs gs' : Array Goroutine} {w w' : World} {sl : Option (Nat × Nat)} {t : Trace} {j q : Nat} {X : Nat → Wk} {x : Mn} {ow : Nat → Ow} {a g g' : Goroutine}

theorem at_self (w : World) : w.at w.drawn = w := rfl
theorem WOk.noRecv {k : Nat} {y : Wk} (h : WOk P ty Wg C n LW Rw k y g w) (c : Nat) : offersAt g c false = [] := by
  rcases h.status with hs | ⟨_, g₂, v, z', rfl⟩
  · exact offersAt_of_not_blocked (by rcases hs with h | h <;> rw [h] <;> simp) c false
  · exact offersAt_parked_send' _ _ _ _ _ _
theorem WOk.noSend {k : Nat} {y : Wk} (h : WOk P ty Wg C n LW Rw k y g w) {c : Nat} (hc : y.st = 8 → y.c ≠ c) : offersAt g c true = [] := by
  rcases h.status with hs | ⟨h8, g₂, v, z', rfl⟩
  · exact offersAt_of_not_blocked (by rcases hs with h | h <;> rw [h] <;> simp) c true
  · rw [offersAt_parked_send, if_neg (hc h8)]
theorem St.noRecv (h : St P Sb ty Wg C n LW Rw Dr μ gs w t j X x ow a q) (hD : ∀ S M g w, Dr S M g w → g.status = .running) {i : Nat} (hi : i < j) (hn : ¬ (x.tag = 3 ∧ q = i)) : partners (gs.setIfInBounds (i + 1) ph) (X i).c false = [] := by
  refine partners_nil fun k y hk => ?_
  rcases getElem?_stand gs (i + 1) k y hk with ⟨_, rfl⟩ | ⟨hne, hk'⟩
  · exact offersAt_ph _ _
  · cases k with
    | zero =>
      rw [h.ha] at hk'; cases hk'
      rcases h.mo.status hD with ⟨hs, _⟩ | ⟨h3, c, ls, rest, g₂, z, hL, rfl⟩
      · exact offersAt_of_not_blocked (by rw [hs]; simp) _ _
      · rw [offersAt_parked_recv, if_neg]
        intro e
        obtain ⟨hcq, hq, _⟩ := h.open3 h3 hL
        exact hn ⟨h3, h.own.cc q i hq hi (hcq.trans e)⟩
    | succ k =>
      have hkj : k < j := by have := (Array.getElem?_eq_some_iff.1 hk').1; rw [h.base.size] at this; omega
      obtain ⟨y', hy', hs⟩ := h.base.wk k hkj
      rw [hk'] at hy'; cases hy'
      exact hs.noRecv _

/-- A WORKER IS PARKED AT ITS SEND. -/
theorem St.park (h : St P Sb ty Wg C n LW Rw Dr μ gs w t j X x ow a q) (hD : ∀ S M g w, Dr S M g w → g.status = .running) {i : Nat} (hi : i < j) (h9 : (X i).st = 9) (hd9 : (X i).d = 0) (hg : gs[i + 1]? = some g) {xs : List Int} {l : List (List Int)} {v z' : Value} {g₂ : Goroutine}
    (hrows : (X i).rows = xs :: l) (hn : ¬ (x.tag = 3 ∧ q = i)) (hst : ∀ d, stepG P false g (w.at d) = .comm g₂ #[scase (X i).c v z'] true .send (w.at d) #[]) (hx : WOk P ty Wg C n LW Rw (i + 1) ⟨xs :: l, (X i).c, (X i).M, (X i).S, 8, .leaf, 0, 0⟩ (parked g₂ #[scase (X i).c v z'] .send) w) :
    ∃ gs₁ w₁ ops μ', (CS P Sb gs w (i + 1) gs₁ w₁ ops ∧ (gs₁.size ≠ gs.size → Deaf t 0 = 0)) ∧ Lt3 μ' μ ∧ InvA P Sb ty Wg C n LW Rw Dr μ' gs₁ w₁ (t ++ ops) := by
  have B := h.base
  have O := h.own
  obtain ⟨s, hs⟩ := B.ch i hi
  rw [h9] at hs
  have hgo := hst w.drawn
  rw [at_self] at hgo
  have hrun := CS.waits (P := P) (Sb := Sb) hg (by simpa using hgo) (fun cc hcc => by
    simp at hcc
    subst hcc
    exact ways_send_none (v := v) (z := z') hs (by simp) (h.noRecv hD hi hn))
  have hx' : ∀ x' : Wk, x' = ⟨xs :: l, (X i).c, (X i).M, (X i).S, 8, .leaf, 0, 0⟩ → ∃ gs₁ w₁ ops μ', (CS P Sb gs w (i + 1) gs₁ w₁ ops ∧ (gs₁.size ≠ gs.size → Deaf t 0 = 0)) ∧ Lt3 μ' μ ∧ InvA P Sb ty Wg C n LW Rw Dr μ' gs₁ w₁ (t ++ ops) := by
    intro x' ex
    have xc : x'.c = (X i).c := by rw [ex]
    have xS : x'.S = (X i).S := by rw [ex]
    have xM : x'.M = (X i).M := by rw [ex]
    have x8 : x'.st = 8 := by rw [ex]
    have xr : x'.rows = (X i).rows := by rw [ex, hrows]
    obtain ⟨f1, f2⟩ := fams (X := X) xc xS xM
    have hcu : ∀ i', (upd X i x' i').c = (X i').c := fun i' => by
      by_cases e : i' = i
      · subst e; rw [upd_same, xc]
      · rw [upd_ne X x' e]
    have hru : ∀ i', (upd X i x' i').rows = (X i').rows := fun i' => by
      by_cases e : i' = i
      · subst e; rw [upd_same, xr]
      · rw [upd_ne X x' e]
    have e1 := sumX (X := X) pot hi x'
    have p1 : pot x' = 13 + 4 * (X i).rows.length := by unfold pot; rw [x8, xr]; simp
    have p2 : pot (X i) = 15 + 4 * (X i).rows.length := by unfold pot; rw [h9]; simp
    refine ⟨_, _, _, (rank x + sumTo j (fun b => pot (upd X i x' b)), x.f :: lst j (fun b => (upd X i x' b).f), sumTo j (fun b => (upd X i x' b).m)), ⟨hrun, fun e => absurd (by simp) e⟩, ?_, j, upd X i x', x, ow, a, q, ?_, h.mo, ?_, O.same rfl hi xc xS xM (fun _ _ => rfl), ?_, ⟨h.lnk.len, fun p c ls hp => ?_, fun h3 => ?_, fun i' hi' => ?_, h.lnk.sp, h.lnk.pos⟩, h.num, rfl⟩
    · rw [h.mu]; exact lt3_1 (by omega)
    · rw [Array.getElem?_setIfInBounds_ne (by omega)]; exact h.ha
    · simp only [Array.append_empty]
      refine ⟨by simp [B.size], fun i' hi' => ?_, by rw [f1, f2]; exact B.ct, B.low, B.norel, B.deaf0, fun i' hi' => ?_, fun i' hi' hs' => ?_, fun i' hi' => by rw [hcu]; exact B.has i' hi', B.pay, fun i' hi' => ?_, fun i' hi' => ?_⟩
      · by_cases e : i' = i
        · subst e
          exact ⟨_, by rw [Array.getElem?_setIfInBounds_self_of_lt (by rw [B.size]; omega)], by rw [upd_same, ex]; exact hx⟩
        · obtain ⟨y, hy, hsy⟩ := B.wk i' hi'
          exact ⟨y, by rw [Array.getElem?_setIfInBounds_ne (by omega)]; exact hy, by rw [upd_ne X x' e]; exact hsy⟩
      · rw [B.deafW i' hi']
        by_cases e : i' = i
        · subst e; rw [upd_same, ex, hd9]
        · rw [upd_ne X x' e]
      · have hne : i' ≠ i := fun e => by subst e; rw [upd_same, x8] at hs'; omega
        rw [upd_ne X x' hne] at hs'
        exact B.rel i' hi' hs'
      · rw [hcu]
        by_cases e : i' = i
        · subst e; rw [upd_same, x8]; exact ⟨s, hs⟩
        · rw [upd_ne X x' e]; exact B.ch i' hi'
      · by_cases e : i' = i
        · subst e; rw [upd_same, x8]; exact .inr (.inl rfl)
        · rw [upd_ne X x' e]; exact B.low7 i' hi'
    · rw [cnt_same hi (by rw [x8, h9]; omega)]; exact h.wg
    · rw [hcu, hru]; exact h.lnk.at_ p c ls hp
    · rw [upd_ne X x' (fun e => hn ⟨h3, e⟩)]; exact h.lnk.pk h3
    · by_cases e : i' = i
      · subst e; have := h.lnk.past i' hi'; omega
      · rw [upd_ne X x' e]; exact h.lnk.past i' hi'
  exact hx' _ rfl

/-- WHATEVER STEP OF A WORKER's UP TO THE CLOSE. -/
theorem St.way (h : St P Sb ty Wg C n LW Rw Dr μ gs w t j X x ow a q) (hD : ∀ S M g w, Dr S M g w → g.status = .running) {i : Nat} (hi : i < j) (hg : gs[i + 1]? = some g) (h9 : (X i).st = 9) :
    ∃ gs₁ w₁ ops μ', (CS P Sb gs w (i + 1) gs₁ w₁ ops ∧ (gs₁.size ≠ gs.size → Deaf t 0 = 0)) ∧ Lt3 μ' μ ∧ InvA P Sb ty Wg C n LW Rw Dr μ' gs₁ w₁ (t ++ ops) := by
  have B := h.base
  have O := h.own
  obtain ⟨g₁, hg₁, hs⟩ := B.wk i hi
  obtain rfl : g = g₁ := by rw [hg] at hg₁; exact Option.some.inj hg₁
  obtain ⟨s, hch⟩ := B.ch i hi
  rw [h9] at hch
  have cWg : (X i).c ≠ Wg := fun e => by have := O.c i hi; rw [e, O.wg] at this; cases this
  generalize hX : X i = y at hs
  cases hs with
  | park => rw [hX] at h9; simp at h9
  | tail7 => rw [hX] at h9; simp at h9
  | tail h6 => rw [hX] at h9; simp at h9; omega
  | way hway =>
    rename_i rows c M S f m
    have hd9 : (X i).d = 0 := by rw [hX]
    have eM : (X i).M = M := by rw [hX]
    have eS : (X i).S = S := by rw [hX]
    have ec : (X i).c = c := by rw [hX]
    have er : (X i).rows = rows := by rw [hX]
    have ef : (X i).f = f := by rw [hX]
    rcases hway.split with hstop | ⟨hrun, g', w', es, hgo, hgn, f', hsub, hK⟩
    · cases rows with
      | nil =>
        obtain ⟨hrn, hmw, g', hg', hstep, hk⟩ := hstop
        have hgo := hstep s (by rw [← ec]; exact hch) w.drawn
        rw [at_self] at hgo
        have clt : c < w.heap.size := by rw [← ec]; exact O.lt (by rw [O.c i hi]; exact Ow.noConfusion)
        have hlive : WgLive ty Wg w → WgLive ty Wg (w.setChan c 0 #[] true s s false) := live_of (chan_get (by rw [← ec]; exact fun e => cWg e.symm))
        have hok : ∀ op ∈ MemOp.ofEvents (i + 1) g.frame.fn g.frame.place (closeEvents c), OkW (ShN Wg) (OwnF X) (RdF X) (i + 1) op := by
          intro op hop
          obtain ⟨h1, e, he, ha⟩ := mem_ofEvents hop
          refine ⟨h1, fun y hy => ?_⟩
          rw [ha] at hy
          simp only [closeEvents, List.mem_toArray, List.mem_cons, List.not_mem_nil, or_false] at he
          rcases he with rfl | rfl
          · simp [MemAct.ofEvent, MemAct.touch?] at hy
            subst hy
            exact .inr (.inr ⟨⟨by omega, .inr (by rw [Nat.add_sub_cancel, ec])⟩, rfl⟩)
          · simp [MemAct.ofEvent, MemAct.touch?] at hy
        have hnr : ∀ op ∈ MemOp.ofEvents (i + 1) g.frame.fn g.frame.place (closeEvents c), op.act ≠ .mark (.release (stA Wg)) := by
          intro op hop
          obtain ⟨h1, e, he, ha⟩ := mem_ofEvents hop
          rw [ha]
          simp only [closeEvents, List.mem_toArray, List.mem_cons, List.not_mem_nil, or_false] at he
          rcases he with rfl | rfl <;> simp [MemAct.ofEvent]
        have hCw : (w.setChan c 0 #[] true s s false).heap[C]? = w.heap[C]? := chan_get (fun e => by have := O.c i hi; rw [ec, ← e, O.cst] at this; cases this)
        have hhasC : Has C (i + 1 - 1) (.chan (some c)) (w.setChan c 0 #[] true s s false) := by rw [Nat.add_sub_cancel, ← ec]; exact (cell_of_block (by rw [ec]; exact hCw) i).trans (B.has i hi)
        obtain ⟨m2, hk2⟩ := hk (w.setChan c 0 #[] true s s false) ⟨fun b hb => chan_get (fun e => by have := O.c i hi; rw [ec, ← e] at this; rcases hb with hb | hb; exact Ow.noConfusion ((O.hm (by rw [eM]; exact hb)).symm.trans this); exact Ow.noConfusion ((O.hs (i := i) (by rw [eS]; exact hb)).symm.trans this)), by rw [chan_size]; exact Nat.le_refl _, hlive⟩ (hlive ⟨_, _, h.wg⟩) hhasC
        have hp7 : pot ⟨[], c, M, S, 7, .leaf, m2, 0⟩ = 7 := rfl
        have hp9 : pot (X i) = 15 := by rw [hX]; rfl
        have base : ∀ {y : Mn}, (y.todo = x.todo ∧ y.L = x.L ∧ y.S = x.S ∧ y.M = x.M ∧ y.d = x.d ∧ pendA y.tag = pendA x.tag ∧ (y.tag = 3 → x.tag = 3 ∧ (X q).st = 9 ∧ q ≠ i) ∧ (5 ≤ y.tag → 5 ≤ x.tag)) → MOk P ty Wg C n LW Rw Dr j y (woken P g g' (w.setChan c 0 #[] true s s false) a) (w.setChan c 0 #[] true s s false) → rank y ≤ rank x + 1 →
            ∃ gs₁ w₁ ops μ', (CS P Sb gs w (i + 1) gs₁ w₁ ops ∧ (gs₁.size ≠ gs.size → Deaf t 0 = 0)) ∧ Lt3 μ' μ ∧ InvA P Sb ty Wg C n LW Rw Dr μ' gs₁ w₁ (t ++ ops) := by
          intro y hy hmo hry
          refine h.goT hi hg hgo (x' := ⟨[], c, M, S, 7, .leaf, m2, 0⟩) chan_size (.inr ec.symm) (fun b hb => chan_get hb) ec.symm er.symm eS.symm eM.symm (Nat.le_refl 7) (.inl rfl) ⟨s, by rw [ec]; exact chan_at clt⟩ ?_ hok hnr (by rw [hd9]; rfl) (fun h6 => absurd h6 (by show ¬ 7 ≤ 6; omega)) ⟨_, rfl, ?_⟩ hy hmo (.inl (by rw [hp7, hp9]; omega))
          · exact .tail7 hk2
          · rw [cnt_same hi (by rw [h9]; show 5 ≤ 7 ↔ 5 ≤ 9; omega)]
            exact h.wg.of_block (chan_get (by rw [← ec]; exact fun e => cWg e.symm))
        by_cases h3 : x.tag = 3 ∧ q = i
        · obtain ⟨h3, hqi⟩ := h3
          have hmo := h.mo
          have hmu := h.mu
          generalize hxx : x = x' at hmo
          cases hmo with
          | lane => rw [hxx] at h3; simp at h3
          | kd => rw [hxx] at h3; simp at h3
          | a1 => rw [hxx] at h3; simp at h3
          | ke => rw [hxx] at h3; simp at h3
          | go => rw [hxx] at h3; simp at h3
          | rg => rw [hxx] at h3; simp at h3
          | door => rw [hxx] at h3; simp at h3
          | pk hpk =>
            rename_i c0 ls rest S0 M0 z gm
            have hL : x.L = (c0, ls) :: rest := by rw [hxx]
            obtain ⟨hcq, hq, _⟩ := h.open3 h3 hL
            have hcc : c0 = c := by rw [← hcq, hqi, ec]
            subst hcc
            have r0 : RM ty Wg (fun b => M0 b ∨ S0 b) w (w.setChan c0 0 #[] true s s false) := by
              have := O.rm0 (w' := w.setChan c0 0 #[] true s s false) (ty := ty) (fun b hb => chan_get (fun e => by have := O.c i hi; rw [ec, ← e] at this; rcases hb with hb | hb <;> rw [hb] at this <;> cases this)) (by rw [chan_size]; exact Nat.le_refl _) hlive
              rw [hxx] at this; exact this
            refine base (y := ⟨[], (c0, ls) :: rest, S0, M0, 4, .leaf, 0⟩) ⟨by rw [hxx], by rw [hxx], by rw [hxx], by rw [hxx], by rw [hxx], by rw [hxx]; rfl, fun h => by simp at h, fun h => by simp at h⟩ (MOk.wokenClosed (.pk hpk) r0 (chan_at clt) hmw hg') (by rw [hxx]; simp [rank])
        · refine base (y := x) ⟨rfl, rfl, rfl, rfl, rfl, rfl, fun h3' => ⟨h3', h.lnk.pk h3', fun e => h3 ⟨h3', e⟩⟩, id⟩ (h.mainStands hD chan_size (B0 := c) (.inr (by rw [← ec]; exact O.c i hi)) (fun b hb => chan_get hb) hlive fun h3' e => ?_) (by omega)
          have hqj : q < j := by have := h.lnk.len; have := h.lnk.pos h3'; omega
          exact h3 ⟨h3', O.cc q i hqj hi (e.trans ec.symm)⟩
      | cons xs l =>
        obtain ⟨hrn, r, o, v, hr, ho, hv, g₂, z', hst, hK⟩ := hstop
        by_cases h3 : x.tag = 3 ∧ q = i
        · obtain ⟨h3, rfl⟩ := h3
          have hmo := h.mo
          generalize hxx : x = x' at hmo
          cases hmo with
          | lane => rw [hxx] at h3; simp at h3
          | kd => rw [hxx] at h3; simp at h3
          | a1 => rw [hxx] at h3; simp at h3
          | ke => rw [hxx] at h3; simp at h3
          | go => rw [hxx] at h3; simp at h3
          | rg => rw [hxx] at h3; simp at h3
          | door => rw [hxx] at h3; simp at h3
          | pk hpk =>
            rename_i c0 ls rest S0 M0 z gm
            have hL : x.L = (c0, ls) :: rest := by rw [hxx]
            have hlk := h.lnk.at_ 0 c0 ls (by rw [hL]; rfl)
            simp only [Nat.add_zero] at hlk
            obtain rfl : c0 = c := by rw [← hlk.1, ec]
            obtain rfl : ls = xs :: l := by rw [← hlk.2, er]
            obtain ⟨hrv, hrow⟩ := hpk w (RM.refl w)
            have hgo := hst w.drawn
            rw [at_self] at hgo
            have hpart : partners (gs.setIfInBounds (q + 1) ph) c0 false = [(0, 0)] := by
              rw [partners_one (j := 0) (g := parked gm #[rcase c0 z] (.recv true)) (by rw [Array.getElem?_setIfInBounds_ne (by omega)]; exact h.ha) (fun k y hk hy => ?_), offersAt_parked_recv, if_pos rfl]
              · rfl
              · rcases getElem?_stand gs (q + 1) k y hy with ⟨_, rfl⟩ | ⟨_, hy'⟩
                · exact offersAt_ph _ _
                · obtain ⟨k, rfl⟩ : ∃ k', k = k' + 1 := ⟨k - 1, by omega⟩
                  have hkj : k < j := by have := (Array.getElem?_eq_some_iff.1 hy').1; rw [B.size] at this; omega
                  obtain ⟨y', hy'', hs⟩ := B.wk k hkj
                  rw [hy'] at hy''; cases hy''
                  exact hs.noRecv _
            have hrun := CS.sendMeets (P := P) (Sb := Sb) hg (by simpa using hgo) (by rw [← ec]; exact hch) (j := 0) (by omega) h.ha hpart
            have hM : (X q).M r := by rw [eM]; exact hr
            obtain ⟨μ', h1, h2⟩ := h.meet hi (c := c0) (r := r) (s := s) (xs := xs) (l := l) (rest := rest) (o := o) (v := v) (g₂ := g₂) (gm := gm) (gs' := (gs.setIfInBounds 0 (Go.Conc.served gm (recvd true v true))).setIfInBounds (q + 1) (Go.Conc.served g₂ undef)) (by rw [hxx]) hL (.inl ⟨h3, h9⟩) (by rw [hxx]) hd9 hM ho hv (by rw [eM, eS]; exact hK) (by rw [hxx]; exact hrow)
              (by rw [← ec]; exact hch) (by simp) (by rw [Array.getElem?_setIfInBounds_ne (by omega), Array.getElem?_setIfInBounds_self_of_lt (by rw [B.size]; omega)]) (by rw [Array.getElem?_setIfInBounds_self_of_lt (by simp [B.size]; omega)])
              (fun b h1 h2 => by rw [Array.getElem?_setIfInBounds_ne (fun e => h2 e.symm), Array.getElem?_setIfInBounds_ne (fun e => h1 e.symm)]) g₂.frame.fn g₂.frame.place gm.frame.fn gm.frame.place
            refine ⟨_, _, _, μ', ⟨hrun, fun e => absurd (by simp) e⟩, h1, ?_⟩
            simp only [finishComm_recv, finishComm_send]
            exact h2
        · refine h.park hD hi h9 hd9 hg er h3 (by rw [ec]; exact hst) ?_
          rw [ec, eM, eS]; exact .park hr ho hv hK
    · -- a step of its own
      refine h.goW hD hi (by rw [h9]; omega) hd9 hg hgo ⟨fun b hb hlt => hgn.keep b (fun hM => hb ((O.m i hi b).1 (by rw [eM]; exact hM))) hlt, hgn.size⟩ (by rw [eM, eS]; exact fun e he => (hgn.evs e he).resolve_right fun x => by cases x.1) (x' := ⟨rows, c, more M w w', S, 9, f', 0, 0⟩) (.way hK) ec.symm er.symm eS.symm (fun b => by rw [eM]; exact Iff.rfl) h9.symm rfl (by rw [ef]; exact hsub)
end

end Go.Proofs.Ytkbfcaaihellfaa
