/- Steps on the way to the law; each part says what it proves. -/
import Derived.Test.YtkbfcaaihellfaaU6

set_option linter.unusedSimpArgs false

/- Workers with lanes and their starter: the starter up to its go statement. No program in sight. -/
namespace Go.Proofs.Ytkbfcaaihellfaa
open Go.Conc Go.ConcN
open Go.ConcR (KK wgBlock WgAt stA smA rd wr mk Payload Aside2 DC0 Bk g_of_ofEvents)
set_option linter.unusedVariables false
set_option linter.unusedSectionVars false

section
variable [Payload] {P : Program} {Sb : Nat → Prop} {ty : TypeId} {Wg C n LW : Nat} {Rw : List Int → Nat → Obj → Value → Prop} {Dr : (Nat → Prop) → (Nat → Prop) → Goroutine → World → Prop}
variable {μ : Mu} {gs gs' : Array Goroutine} {w w' : World} {sl : Option (Nat × Nat)} {t : Trace} {j q : Nat} {X : Nat → Wk} {x : Mn} {ow : Nat → Ow} {a g g' : Goroutine}

/-- A private step of the starter's; memory may have grown. -/
theorem St.go0g (h : St P Sb ty Wg C n LW Rw Dr μ gs w t j X x ow a q) {a' : Goroutine} {es : Array Event} (hs : stepG P true a w = .go a' w' es) (hp : Pvt ow .mn w w') (hok : ∀ op ∈ MemOp.ofEvents 0 a.frame.fn a.frame.place es, Ok0 (ShN Wg) (OwnF X) (RdF X) j op)
    (hlow : ∀ op ∈ MemOp.ofEvents 0 a.frame.fn a.frame.place es, ∀ y, op.act.touch? = some y → y.loc.isMemory = true → blk y.loc < w.heap.size) (hnr : ∀ op ∈ MemOp.ofEvents 0 a.frame.fn a.frame.place es, op.act ≠ .mark (.release (stA Wg))) (hdf : deafBehind x.d es = x.d) (hsy : ∀ e ∈ es, Shy Sb e)
    {y : Mn} (hy : y.todo = x.todo ∧ y.L = x.L ∧ y.S = x.S ∧ y.d = x.d ∧ y.tag = x.tag) (hM : y.M = more x.M w w') (hmo : MOk P ty Wg C n LW Rw Dr j y a' w') (h3 : x.tag ≠ 3)
    (hlt : Sub y.f x.f) :
    ∃ gs₁ w₁ ops μ', (CS P Sb gs w 0 gs₁ w₁ ops ∧ (gs₁.size ≠ gs.size → Deaf t 0 = 0)) ∧ Lt3 μ' μ ∧ InvA P Sb ty Wg C n LW Rw Dr μ' gs₁ w₁ (t ++ ops) := by
  have hrun := CS.go (P := P) (Sb := Sb) (i := 0) h.ha (by simpa using hs) hsy
  obtain ⟨hy1, hy2, hy3, hy5, hy6⟩ := hy
  have er : rank y = rank x := by unfold rank; rw [hy1, hy2, hy6]
  refine ⟨_, _, _, (rank y + sumTo j (fun b => pot (X b)), y.f :: lst j (fun b => (X b).f), sumTo j (fun b => (X b).m)), ⟨hrun, fun e => absurd (by simp) e⟩, ?_, j, X, y, _, a', q, get_map_set_same _ _ _ (by rw [h.base.size]; omega), hmo, by rw [hy5]; exact h.base.step0g h.own hp hok hlow hnr hdf, by rw [hy3, hM]; exact h.own.new0 hp.size (fun b hb => h.own.pvtKeep hp (by rw [h.own.stn hb]; exact Ow.noConfusion) (by rw [h.own.stn hb]; exact Ow.noConfusion)), ?_,
    ⟨by rw [hy2]; exact h.lnk.len, by rw [hy2]; exact h.lnk.at_, fun e => absurd (by rw [← hy6]; exact e) h3, h.lnk.past, by rw [hy6]; exact h.lnk.sp, fun e => absurd (by rw [← hy6]; exact e) h3⟩, by rw [hy1]; exact h.num, rfl⟩
  · rw [h.mu]
    exact lt3_2 (by omega) (.head hlt)
  · rw [hy6]
    exact h.wg.of_block (h.own.pvtKeep hp (by rw [h.own.wg]; exact Ow.noConfusion) (by rw [h.own.wg]; exact Ow.noConfusion))
/-- What the starter's bookkeeping lists. -/
theorem OwnG.ok0S {M0 S0 : Nat → Prop} (O : OwnG Sb Wg C LW j w X M0 S0 ow) {fn : FuncId} {pos : String} {es : Array Event} (hes : ∀ e ∈ es, EvM M0 S0 e ∨ EvSaid Wg e) (d : Nat) :
    (∀ op ∈ MemOp.ofEvents 0 fn pos es, Ok0 (ShN Wg) (OwnF X) (RdF X) j op) ∧ (∀ op ∈ MemOp.ofEvents 0 fn pos es, ∀ y, op.act.touch? = some y → y.loc.isMemory = true → blk y.loc < w.heap.size) ∧ (∀ op ∈ MemOp.ofEvents 0 fn pos es, op.act ≠ .mark (.release (stA Wg))) ∧ deafBehind d es = d := by
  have one : ∀ {e : Event}, (EvM M0 S0 e) → ∀ op ∈ MemOp.ofEvents 0 fn pos #[e], Ok0 (ShN Wg) (OwnF X) (RdF X) j op ∧ (∀ y, op.act.touch? = some y → y.loc.isMemory = true → blk y.loc < w.heap.size) ∧ op.act ≠ .mark (.release (stA Wg)) := fun {e} he op hop =>
    ⟨O.ok0 (by intro e' he'; simp at he'; subst he'; exact he) op hop, O.low0 (by intro e' he'; simp at he'; subst he'; exact he) op hop, norel_evM (M := M0) (S := S0) (by intro e' he'; simp at he'; subst he'; exact he) op hop⟩
  have all : ∀ op ∈ MemOp.ofEvents 0 fn pos es, Ok0 (ShN Wg) (OwnF X) (RdF X) j op ∧ (∀ y, op.act.touch? = some y → y.loc.isMemory = true → blk y.loc < w.heap.size) ∧ op.act ≠ .mark (.release (stA Wg)) := by
    intro op hop
    obtain ⟨h1, h2⟩ := mem_ofEvents hop
    obtain ⟨e, he, ha⟩ := h2
    rcases hes e he with h | ⟨ad, hb, h⟩
    · refine one h op ?_
      unfold MemOp.ofEvents at hop ⊢
      split at hop
      · simp at hop
      · obtain ⟨e', he', rfl⟩ := Array.mem_map.1 hop
        simp at ha
        simp [ha]
    · refine ⟨⟨h1, fun y hy => .inl ?_⟩, fun y hy _ => ?_, ?_⟩
      · rcases h with rfl | rfl <;> (rw [ha] at hy; simp [MemAct.ofEvent, MemAct.touch?] at hy; subst hy; exact ⟨⟨ad, rfl, hb⟩, by simp⟩)
      · have hlt : Wg < w.heap.size := O.lt (by rw [O.wg]; exact Ow.noConfusion)
        rcases h with rfl | rfl <;> (rw [ha] at hy; simp [MemAct.ofEvent, MemAct.touch?] at hy; subst hy; show ad.block < _; omega)
      · rcases h with rfl | rfl <;> (rw [ha]; simp [MemAct.ofEvent])
  refine ⟨fun op hop => (all op hop).1, fun op hop => (all op hop).2.1, fun op hop => (all op hop).2.2, ?_⟩
  unfold deafBehind
  rw [← Array.foldl_toList]
  have : ∀ (l : List Event), (∀ e ∈ l, EvM M0 S0 e ∨ EvSaid Wg e) → ∀ d, l.foldl (fun d e => match e.loc with | .mark .disable => d + 1 | .mark .enable => d - 1 | _ => d) d = d := by
    intro l
    induction l with
    | nil => intro _ d; rfl
    | cons e l ih =>
      intro h d
      rw [List.foldl_cons]
      rcases h e (by simp) with (⟨a, ha, _⟩ | ⟨r, hr, _⟩ | rfl) | ⟨ad, _, rfl | rfl⟩
      · rw [ha]; exact ih (fun e he => h e (by simp [he])) d
      · rw [hr]; exact ih (fun e he => h e (by simp [he])) d
      · exact ih (fun e he => h e (by simp [he])) d
      · exact ih (fun e he => h e (by simp [he])) d
      · exact ih (fun e he => h e (by simp [he])) d
  exact this _ (fun e he => hes e (by simpa using he)) d
theorem OwnG.shyS {M0 S0 : Nat → Prop} (O : OwnG Sb Wg C LW j w X M0 S0 ow) {es : Array Event} (hes : ∀ e ∈ es, EvM M0 S0 e ∨ EvSaid Wg e) : ∀ e ∈ es, Shy Sb e := fun e he => by
  rcases hes e he with h | ⟨ad, _, rfl | rfl⟩
  · exact O.shy0 h
  · intro y hy; simp [MemAct.ofEvent, MemAct.touch?] at hy; subst hy; simp
  · intro y hy; simp [MemAct.ofEvent, MemAct.touch?] at hy; subst hy; simp
theorem St.go0 (h : St P Sb ty Wg C n LW Rw Dr μ gs w t j X x ow a q) {a' : Goroutine} {es : Array Event} (hs : stepG P true a w = .go a' w' es) (hgn : GN true Wg x.M x.S w w' es)
    {y : Mn} (hy : y.todo = x.todo ∧ y.L = x.L ∧ y.S = x.S ∧ y.d = x.d ∧ y.tag = x.tag) (hM : y.M = more x.M w w') (hmo : MOk P ty Wg C n LW Rw Dr j y a' w') (h3 : x.tag ≠ 3) (hlt : Sub y.f x.f) :
    ∃ gs₁ w₁ ops μ', (CS P Sb gs w 0 gs₁ w₁ ops ∧ (gs₁.size ≠ gs.size → Deaf t 0 = 0)) ∧ Lt3 μ' μ ∧ InvA P Sb ty Wg C n LW Rw Dr μ' gs₁ w₁ (t ++ ops) := by
  obtain ⟨k1, k2, k3, k4⟩ := h.own.ok0S (fn := a.frame.fn) (pos := a.frame.place) (es := es) (fun e he => (hgn.evs e he).imp id (·.2)) x.d
  exact h.go0g hs ⟨fun b hb hlt => hgn.keep b (fun hm => hb ((h.own.m0 b).1 hm)) hlt, hgn.size⟩ k1 k2 k3 k4 (h.own.shyS fun e he => (hgn.evs e he).imp id (·.2)) hy hM hmo h3 hlt
/-- A step of the starter's by which at most block B0 turns: the group's, or the row of lanes. -/
theorem St.goB (h : St P Sb ty Wg C n LW Rw Dr μ gs w t j X x ow a q) {B0 : Nat} {a' : Goroutine} {es : Array Event} (hs : stepG P true a w = .go a' w' es) (hsz : w'.heap.size = w.heap.size) (hB : B0 = Wg ∨ B0 = C) (hblk : ∀ b, b ≠ B0 → w'.heap[b]? = w.heap[b]?)
    (hpay : PayAt C n w') (hhas : ∀ i, i < j → Has C i (.chan (some (X i).c)) w') (hok : ∀ op ∈ MemOp.ofEvents 0 a.frame.fn a.frame.place es, Ok0 (ShN Wg) (OwnF X) (RdF X) j op) (hlow : ∀ op ∈ MemOp.ofEvents 0 a.frame.fn a.frame.place es, ∀ y, op.act.touch? = some y → y.loc.isMemory = true → blk y.loc < w.heap.size)
    (hnr : ∀ op ∈ MemOp.ofEvents 0 a.frame.fn a.frame.place es, op.act ≠ .mark (.release (stA Wg))) {y : Mn} (hy : y.todo = x.todo ∧ y.L = x.L ∧ y.S = x.S ∧ y.M = x.M) (hd : deafBehind x.d es = y.d) (h5 : 5 ≤ x.tag) (h5' : 5 ≤ y.tag) (htag : y.tag < x.tag) (hsy : ∀ e ∈ es, Shy Sb e)
    (hmo : MOk P ty Wg C n LW Rw Dr j y a' w') (hwg : WgAt ty Wg w' (((cntA j X + pendA y.tag : Nat) : Int) * KK) 0) :
    ∃ gs₁ w₁ ops μ', (CS P Sb gs w 0 gs₁ w₁ ops ∧ (gs₁.size ≠ gs.size → Deaf t 0 = 0)) ∧ Lt3 μ' μ ∧ InvA P Sb ty Wg C n LW Rw Dr μ' gs₁ w₁ (t ++ ops) := by
  have hrun := CS.go (P := P) (Sb := Sb) (i := 0) h.ha (by simpa using hs) hsy
  have B := h.base
  have O := h.own
  obtain ⟨hy1, hy2, hy3, hy4⟩ := hy
  have er : rank y < rank x := by unfold rank; rw [hy1, hy2]; omega
  have hlive : WgLive ty Wg w → WgLive ty Wg w' := fun _ => ⟨_, _, hwg⟩
  have kp : ∀ {b}, ow b ≠ .wg → b ≠ C → w'.heap[b]? = w.heap[b]? := fun {b} h1 h2 => hblk b fun e => by
    rcases hB with e' | e'
    · exact h1 (by rw [e, e', O.wg])
    · exact h2 (e.trans e')
  have hcC : ∀ i, i < j → (X i).c ≠ C := fun i hi e => by have := O.c i hi; rw [e, O.cst] at this; cases this
  have hchs : ∀ i, i < j → w'.heap[(X i).c]? = w.heap[(X i).c]? := fun i hi => kp (by rw [O.c i hi]; exact Ow.noConfusion) (hcC i hi)
  refine ⟨_, _, _, (rank y + sumTo j (fun b => pot (X b)), y.f :: lst j (fun b => (X b).f), sumTo j (fun b => (X b).m)), ⟨hrun, fun e => absurd (by simp) e⟩, ?_, j, X, y, ow, a', q, get_map_set_same _ _ _ (by rw [B.size]; omega), hmo, ?_, ?_, hwg,
    ⟨by rw [hy2]; exact h.lnk.len, by rw [hy2]; exact h.lnk.at_, fun e => by omega, h.lnk.past, fun _ => h.lnk.sp h5, fun e => by omega⟩, by rw [hy1]; exact h.num, rfl⟩
  · rw [h.mu]; exact lt3_1 (by omega)
  · refine ⟨by simp [B.size], fun i hi => ?_, B.ct.app0 O.apart hok, low_app B.low (by rw [hsz]; exact Nat.le_refl _) (by rw [hsz]; exact hlow), B.norel.app hnr, by rw [Deaf_own, B.deaf0]; exact hd, fun i hi => by rw [Deaf_other t (by omega) _ g_of_ofEvents, B.deafW i hi], fun i hi hst => ?_, hhas, hpay, fun i hi => by rw [hchs i hi]; exact B.ch i hi, B.low7⟩
    · refine B.others O hi (by omega) ⟨⟨fun b hb => ?_, by rw [hsz]; exact Nat.le_refl _, hlive⟩, ⟨fun b h1 h2 h3 => kp (by rw [O.low b h1 h2]; exact Ow.noConfusion) h3, hlive, fun _ => hpay, ?_⟩⟩ (hchs i hi)
      · rcases hb with hb | hb
        · have := O.hm hb
          exact kp (by rw [this]; exact Ow.noConfusion) (fun e => by rw [e, O.cst] at this; cases this)
        · have := O.s i hi b hb
          exact kp (by rw [this.1]; exact Ow.noConfusion) this.2
      · have h1 := hhas i hi
        have h2 := B.has i hi
        unfold Has at h1 h2
        rw [Nat.add_sub_cancel, h1, h2]
    · obtain ⟨r, hr⟩ := B.rel i hi hst
      exact ⟨r, hr.appOther g_of_ofEvents (by omega)⟩
  · rw [hy3, hy4]
    exact ⟨O.m, O.m0, O.s0, O.s, O.c, O.cc, O.wg, O.wg1, O.cst, fun b => by rw [hsz]; exact O.fr b, O.low, O.wk, O.out, O.sbl, O.shs, O.shw, fun b hb => (O.sbc b hb).of (kp (by rw [O.stn hb]; exact Ow.noConfusion) (O.sbl b hb).2.2)⟩

theorem ok0_mute {Wg : Nat} {fn : FuncId} {pos : String} {es : Array Event} {OwnG Rd : Nat → Loc → Prop} (h : ∀ e ∈ es, (MemAct.ofEvent e).touch? = none) : ∀ op ∈ MemOp.ofEvents 0 fn pos es, Ok0 (ShN Wg) OwnG Rd j op := by
  intro op hop
  obtain ⟨h1, e, he, ha⟩ := mem_ofEvents hop
  exact ⟨h1, fun y hy => by rw [ha, h e he] at hy; cases hy⟩
theorem low_mute {fn : FuncId} {pos : String} {es : Array Event} {N : Nat} (h : ∀ e ∈ es, (MemAct.ofEvent e).touch? = none) : ∀ op ∈ MemOp.ofEvents 0 fn pos es, ∀ y, op.act.touch? = some y → y.loc.isMemory = true → blk y.loc < N := by
  intro op hop y hy
  obtain ⟨h1, e, he, ha⟩ := mem_ofEvents hop
  rw [ha, h e he] at hy; cases hy
/-- A mark of the starter's. -/
theorem St.mark0 (h : St P Sb ty Wg C n LW Rw Dr μ gs w t j X x ow a q) {a' : Goroutine} {m : Mark} (hs : stepG P true a w = .go a' w (#[Go.ConcR.mk m] : Array Event)) (hm : m = .disable ∨ m = .enable) {y : Mn} (hy : y.todo = x.todo ∧ y.L = x.L ∧ y.S = x.S ∧ y.M = x.M) (hd : deafBehind x.d (#[Go.ConcR.mk m] : Array Event) = y.d)
    (h5 : 5 ≤ x.tag) (h5' : 5 ≤ y.tag) (htag : y.tag < x.tag) (hp : pendA y.tag = pendA x.tag) (hmo : MOk P ty Wg C n LW Rw Dr j y a' w) : ∃ gs₁ w₁ ops μ', (CS P Sb gs w 0 gs₁ w₁ ops ∧ (gs₁.size ≠ gs.size → Deaf t 0 = 0)) ∧ Lt3 μ' μ ∧ InvA P Sb ty Wg C n LW Rw Dr μ' gs₁ w₁ (t ++ ops) := by
  have ht : ∀ e ∈ (#[Go.ConcR.mk m] : Array Event), (MemAct.ofEvent e).touch? = none := by intro e he; simp at he; subst he; rcases hm with rfl | rfl <;> rfl
  refine h.goB hs rfl (.inl rfl) (fun _ _ => rfl) h.base.pay h.base.has (ok0_mute ht) (low_mute ht) (norel_of ?_) hy hd h5 h5' htag (fun e he => .none (ht e he)) hmo (by rw [hp]; exact h.wg)
  intro e he; simp at he; subst he; rcases hm with rfl | rfl <;> simp [Go.ConcR.mk]

/-- WHATEVER STEP OF THE STARTER's UP TO ITS go STATEMENT. -/
theorem St.spawnUp (h : St P Sb ty Wg C n LW Rw Dr μ gs w t j X x ow a q) (hn : n < 2147483647) (h6 : 6 ≤ x.tag) :
    ∃ gs₁ w₁ ops μ', (CS P Sb gs w 0 gs₁ w₁ ops ∧ (gs₁.size ≠ gs.size → Deaf t 0 = 0)) ∧ Lt3 μ' μ ∧ InvA P Sb ty Wg C n LW Rw Dr μ' gs₁ w₁ (t ++ ops) := by
  have O := h.own
  have B := h.base
  have hmo := h.mo
  generalize hxx : x = x' at hmo
  have hj : ∀ ls rest, x.todo = ls :: rest → j < n := fun ls rest e => by have := h.num; rw [e] at this; simp at this; omega
  cases hmo with
  | go => rw [hxx] at h6; simp at h6
  | rg => rw [hxx] at h6; simp at h6
  | pk => rw [hxx] at h6; simp at h6
  | door => rw [hxx] at h6; simp at h6
  | lane hw =>
    rename_i ls rest L S M f
    have t9 : x.tag = 9 := by rw [hxx]
    rcases hw.split with hstop | ⟨hrun, g', w', es, hgo, hgn, f', hsub, hK⟩
    · obtain ⟨hrn, g', c, hMc, hpay, hgo, m2, hk⟩ := hstop
      have hC := O.cst
      have hjn := hj ls rest (by rw [hxx])
      obtain ⟨cs, hc1, hc2⟩ := hpay
      have hblk : ∀ b, b ≠ C → (w.setCell ⟨C, j, none⟩ (.chan (some c))).heap[b]? = w.heap[b]? := fun b hb => by
        simp only [World.setCell]; rw [Array.getElem?_modify, if_neg (fun e => hb e.symm)]
      have hCn : (w.setCell ⟨C, j, none⟩ (.chan (some c))).heap[C]? = some (.cells (cs.setIfInBounds j (.chan (some c))) Payload.ety) := by
        simp only [World.setCell]; rw [Array.getElem?_modify, if_pos rfl, hc1]; rfl
      have hWC : Wg ≠ C := fun e => by rw [← e, O.wg] at hC; cases hC
      refine h.goB (B0 := C) hgo (by simp [World.setCell]) (.inr rfl) hblk ⟨_, hCn, by simp [hc2]⟩ (fun i hi => ?_) ?_ ?_ ?_ (y := ⟨ls :: rest, L, S, M, 8, m2, 0⟩) (by rw [hxx]; exact ⟨rfl, rfl, rfl, rfl⟩) (by rw [hxx]; rfl) (by omega) (by simp) (by rw [t9]; simp) (fun e he => by simp at he; subst he; exact shy_cell (fun hb => (O.sbl _ hb).2.2 rfl)) (.kd hk) ?_
      · have := B.has i hi
        unfold Has at this ⊢
        rw [← this]
        simp only [World.cell?, hCn, hc1]
        simp only [Option.isSome_none, Bool.false_eq_true, if_false]
        rw [Array.getElem?_setIfInBounds_ne (by omega)]
      · intro op hop
        obtain ⟨h1, e, he, ha⟩ := mem_ofEvents hop
        refine ⟨h1, fun z hz => .inr ?_⟩
        simp at he; subst he
        rw [ha] at hz
        simp [MemAct.ofEvent, MemAct.touch?] at hz
        subst hz
        refine ⟨fun hs => hWC (shn_blk hs).symm, fun k _ _ ho => ?_, fun _ k k1 kj hr => ?_⟩
        · have := O.hm ho.2.2; rw [show blk (.cell ⟨C, j, none⟩) = C from rfl, hC] at this; cases this
        · rcases hr.2 with ⟨_, hr⟩ | hr
          · exact (O.s (k - 1) (by omega) _ hr).2 rfl
          · cases hr
      · intro op hop z hz _
        obtain ⟨h1, e, he, ha⟩ := mem_ofEvents hop
        simp at he; subst he
        rw [ha] at hz
        simp [MemAct.ofEvent, MemAct.touch?] at hz
        subst hz
        exact O.lt (by rw [show blk (.cell ⟨C, j, none⟩) = C from rfl, hC]; exact Ow.noConfusion)
      · intro op hop
        obtain ⟨h1, e, he, ha⟩ := mem_ofEvents hop
        simp at he; subst he
        rw [ha]; simp [MemAct.ofEvent]
      · have : pendA 8 = pendA x.tag := by rw [t9]; rfl
        show WgAt ty Wg _ (((cntA j X + pendA 8 : Nat) : Int) * KK) 0
        rw [this]
        exact h.wg.of_block (hblk Wg hWC)
    · exact h.go0 hgo (by rw [hxx]; exact hgn) (y := ⟨ls :: rest, L, S, more M w w', 9, f', 0⟩) (by rw [hxx]; exact ⟨rfl, rfl, rfl, rfl, rfl⟩) (by rw [hxx]) (.lane hK) (by rw [hxx]; simp) (by rw [hxx]; exact hsub)
  | kd hw =>
    rename_i ls rest L S M f c
    rcases hw.split with hstop | ⟨hrun, g', w', es, hgo, hgn, f', hsub, hK⟩
    · obtain ⟨_, g', hgo, m2, hk⟩ := hstop
      exact h.mark0 hgo (.inl rfl) (y := ⟨ls :: rest, L, S, M, 7, m2, 1⟩) (by rw [hxx]; exact ⟨rfl, rfl, rfl, rfl⟩) (by rw [hxx]; rfl) (by omega) (by simp) (by rw [hxx]; simp) (by rw [hxx]; rfl) (.a1 hk)
    · exact h.go0 hgo (by rw [hxx]; exact hgn) (y := ⟨ls :: rest, L, S, more M w w', 8, f', 0⟩) (by rw [hxx]; exact ⟨rfl, rfl, rfl, rfl, rfl⟩) (by rw [hxx]) (.kd hK) (by rw [hxx]; simp) (by rw [hxx]; exact hsub)
  | a1 hw =>
    rename_i ls rest L S M f c
    rcases hw.split with hstop | ⟨hrun, g', w', es, hgo, hgn, f', hsub, hK⟩
    · obtain ⟨_, hall⟩ := hstop
      have hwg := h.wg
      have hp7 : pendA x.tag = 0 := by rw [hxx]; rfl
      rw [hp7, Nat.add_zero] at hwg
      have hcl : cntA j X ≤ j := by unfold cntA; exact Nat.le_trans (sumTo_le (c := 1) fun b _ => by split <;> omega) (by omega)
      have hjn := hj ls rest (by rw [hxx])
      obtain ⟨g', hgo, m2, hk⟩ := hall (cntA j X) (by omega) hwg
      have bk2 : ∀ e ∈ #[rd (stA Wg), wr (stA Wg)], Bk Wg e := by intro e he; simp at he; rcases he with rfl | rfl <;> exact bk_cell _ _ rfl
      have hCW : C ≠ (stA Wg).block := fun e => by have h1 := O.cst; rw [show C = Wg from e, O.wg] at h1; cases h1
      refine h.goB (B0 := Wg) hgo (by simp [World.setCell]) (.inl rfl) (aside_setCell w (stA Wg) _).block ?_ (fun i hi => ?_) (ok0_of_Bk bk2) ?_ (norel_of (norel_of_Bk bk2)) (y := ⟨ls :: rest, L, S, M, 6, m2, 1⟩) (by rw [hxx]; exact ⟨rfl, rfl, rfl, rfl⟩) (by rw [hxx]; rfl) (by omega) (by simp) (by rw [hxx]; simp) (fun e he => by simp at he; rcases he with rfl | rfl <;> exact shy_cell (fun hb => (O.sbl _ hb).2.1 rfl)) (.ke hk) ?_
      · obtain ⟨cs, h1, h2⟩ := B.pay
        exact ⟨cs, ((aside_setCell w (stA Wg) _).block C hCW).trans h1, h2⟩
      · exact (cell_of_block ((aside_setCell w (stA Wg) _).block C hCW) i).trans (B.has i hi)
      · intro op hop z hz _
        obtain ⟨h1, e, he, ha⟩ := mem_ofEvents hop
        rw [ha] at hz
        have hWlt : Wg < w.heap.size := O.lt (by rw [O.wg]; exact Ow.noConfusion)
        simp at he
        rcases he with rfl | rfl <;> (simp [rd, wr, MemAct.ofEvent, MemAct.touch?] at hz; subst hz; exact hWlt)
      · have := hwg.setSt (((cntA j X + 1 : Nat) : Int) * KK)
        show WgAt ty Wg _ (((cntA j X + pendA 6 : Nat) : Int) * KK) 0
        have e6 : pendA 6 = 1 := rfl
        rw [e6]
        simpa using this
    · exact h.go0 hgo (by rw [hxx]; exact hgn) (y := ⟨ls :: rest, L, S, more M w w', 7, f', 1⟩) (by rw [hxx]; exact ⟨rfl, rfl, rfl, rfl, rfl⟩) (by rw [hxx]) (.a1 hK) (by rw [hxx]; simp) (by rw [hxx]; exact hsub)
  | ke hw =>
    rename_i ls rest L S M f c
    rcases hw.split with hstop | ⟨hrun, g', w', es, hgo, hgn, f', hsub, hK⟩
    · obtain ⟨_, g', hgo, f2, hk⟩ := hstop
      exact h.mark0 hgo (.inr rfl) (y := ⟨ls :: rest, L, S, M, 5, f2, 0⟩) (by rw [hxx]; exact ⟨rfl, rfl, rfl, rfl⟩) (by rw [hxx]; rfl) (by omega) (by simp) (by rw [hxx]; simp) (by rw [hxx]; rfl) (.go hk)
    · exact h.go0 hgo (by rw [hxx]; exact hgn) (y := ⟨ls :: rest, L, S, more M w w', 6, f', 1⟩) (by rw [hxx]; exact ⟨rfl, rfl, rfl, rfl, rfl⟩) (by rw [hxx]) (.ke hK) (by rw [hxx]; simp) (by rw [hxx]; exact hsub)
end

end Go.Proofs.Ytkbfcaaihellfaa

/- Workers with lanes and their starter: a go statement. No program in sight. -/
namespace Go.Proofs.Ytkbfcaaihellfaa
open Go.Conc Go.ConcN
open Go.ConcR (KK wgBlock WgAt stA smA rd wr mk Payload Aside2 DC0 Bk g_of_ofEvents)
set_option linter.unusedVariables false
set_option linter.unusedSectionVars false

open Classical in
noncomputable def owGo (ow : Nat → Ow) (c : Nat) (S' : Nat → Prop) (b : Nat) : Ow := if b = c then .ln else if S' b ∧ ow b = .mn then .st else ow b
theorem owGo_c (ow : Nat → Ow) (c : Nat) (S' : Nat → Prop) : owGo ow c S' c = .ln := if_pos rfl
theorem owGo_st {ow : Nat → Ow} {c b : Nat} {S' : Nat → Prop} (h : b ≠ c) (hs : S' b) (hm : ow b = .mn) : owGo ow c S' b = .st := by unfold owGo; rw [if_neg h, if_pos ⟨hs, hm⟩]
theorem owGo_old {ow : Nat → Ow} {c b : Nat} {S' : Nat → Prop} (h : b ≠ c) (hs : ¬ (S' b ∧ ow b = .mn)) : owGo ow c S' b = ow b := by unfold owGo; rw [if_neg h, if_neg hs]

section
variable [Payload] {P : Program} {Sb : Nat → Prop} {ty : TypeId} {Wg C n LW : Nat} {Rw : List Int → Nat → Obj → Value → Prop} {Dr : (Nat → Prop) → (Nat → Prop) → Goroutine → World → Prop}
variable {μ : Mu} {gs gs' : Array Goroutine} {w w' : World} {sl : Option (Nat × Nat)} {t : Trace} {j q : Nat} {X : Nat → Wk} {x : Mn} {ow : Nat → Ow} {a g g' : Goroutine}

theorem OwnG.go {M0 S0 : Nat → Prop} (O : OwnG Sb Wg C LW j w X M0 S0 ow) {c : Nat} {S' : Nat → Prop} (hS : ∀ b, S' b → M0 b ∨ S0 b) (hMc : M0 c) (hcS : ¬ S' c) (hCS : ¬ S' C) {y : Wk} (hyc : y.c = c) (hyS : y.S = S') (hyM : ∀ b, ¬ y.M b) :
    OwnG Sb Wg C LW (j + 1) w (upd X j y) (fun b => M0 b ∧ ¬ S' b ∧ b ≠ c) (fun b => S0 b ∨ S' b) (owGo ow c S') := by
  have oc := (O.m0 c).1 hMc
  have old : ∀ {b}, ow b ≠ .mn → owGo ow c S' b = ow b := fun {b} h => owGo_old (fun e => h (by rw [e, oc])) (fun e => h e.2)
  have shS : ∀ b, S' b → ¬ Sb b := fun b h => (hS b h).elim (fun h => O.shn (by rw [(O.m0 b).1 h]; exact Ow.noConfusion)) (O.shs b)
  refine ⟨fun i hi b => ?_, fun b => ?_, fun b h => ?_, fun i hi b h => ?_, fun i hi => ?_, fun i i' h1 h2 h3 => ?_, ?_, fun b h => ?_, ?_, fun b => ?_, fun b h1 h2 => ?_, fun i b h => ?_, fun i hi => ?_, O.sbl, fun b h => h.elim (O.shs b) (shS b), fun i hi b h => ?_, O.sbc⟩
  · by_cases e : i = j
    · subst e; rw [upd_same]
      refine ⟨fun h => absurd h (hyM b), fun h => ?_⟩
      by_cases hm : ow b = .mn
      · by_cases hb : b = c
        · rw [hb, owGo_c] at h; cases h
        · by_cases hs : S' b
          · rw [owGo_st hb hs hm] at h; cases h
          · rw [owGo_old hb (fun e => hs e.1), hm] at h; cases h
      · rw [old hm] at h; have := O.wk _ _ h; omega
    · rw [upd_ne X y e, O.m i (by omega)]
      by_cases hm : ow b = .mn
      · rw [hm]
        refine ⟨fun h => (by cases h), fun h => ?_⟩
        by_cases hb : b = c
        · rw [hb, owGo_c] at h; cases h
        · by_cases hs : S' b
          · rw [owGo_st hb hs hm] at h; cases h
          · rw [owGo_old hb (fun e => hs e.1), hm] at h; cases h
      · rw [old hm]
  · rw [O.m0]
    by_cases hm : ow b = .mn
    · by_cases hb : b = c
      · rw [hb, owGo_c]; exact ⟨fun h => absurd rfl h.2.2, fun h => (by cases h)⟩
      · by_cases hs : S' b
        · rw [owGo_st hb hs hm]; exact ⟨fun h => absurd hs h.2.1, fun h => (by cases h)⟩
        · rw [owGo_old hb (fun e => hs e.1)]; exact ⟨fun h => h.1, fun h => ⟨h, hs, hb⟩⟩
    · rw [old hm]; exact ⟨fun h => h.1, fun h => absurd h hm⟩
  · by_cases hm : ow b = .mn
    · have hs : S' b := h.elim (fun h => by rw [O.s0 b h] at hm; cases hm) id
      exact owGo_st (fun e => hcS (by rw [← e]; exact hs)) hs hm
    · rw [old hm]
      rcases h with h | h
      · exact O.s0 b h
      · rcases hS b h with h | h
        · exact absurd ((O.m0 b).1 h) hm
        · exact O.s0 b h
  · by_cases e : i = j
    · subst e; rw [upd_same, hyS] at h
      refine ⟨?_, fun e => hCS (by rw [← e]; exact h)⟩
      by_cases hm : ow b = .mn
      · exact owGo_st (fun e => hcS (by rw [← e]; exact h)) h hm
      · rw [old hm]
        rcases hS b h with h | h
        · exact absurd ((O.m0 b).1 h) hm
        · exact O.s0 b h
    · rw [upd_ne X y e] at h
      have := O.s i (by omega) b h
      rw [old (by rw [this.1]; exact Ow.noConfusion)]; exact this
  · by_cases e : i = j
    · subst e; rw [upd_same, hyc]; exact owGo_c _ _ _
    · rw [upd_ne X y e, old (by rw [O.c i (by omega)]; exact Ow.noConfusion)]; exact O.c i (by omega)
  · have hne : ∀ i, i < j → (X i).c ≠ c := fun i hi e => by have := O.c i hi; rw [e, oc] at this; cases this
    by_cases e : i = j
    · by_cases e' : i' = j
      · omega
      · rw [e, upd_same, hyc, upd_ne X y e'] at h3; exact absurd h3.symm (hne i' (by omega))
    · by_cases e' : i' = j
      · rw [e', upd_same, hyc, upd_ne X y e] at h3; exact absurd h3 (hne i (by omega))
      · rw [upd_ne X y e, upd_ne X y e'] at h3; exact O.cc i i' (by omega) (by omega) h3
  · rw [old (by rw [O.wg]; exact Ow.noConfusion), O.wg]
  · by_cases hm : ow b = .mn
    · by_cases hb : b = c
      · rw [hb, owGo_c] at h; cases h
      · by_cases hs : S' b
        · rw [owGo_st hb hs hm] at h; cases h
        · rw [owGo_old hb (fun e => hs e.1), hm] at h; cases h
    · rw [old hm] at h; exact O.wg1 b h
  · rw [old (by rw [O.cst]; exact Ow.noConfusion), O.cst]
  · rw [O.fr]
    by_cases hm : ow b = .mn
    · rw [hm]
      refine ⟨fun h => (by cases h), fun h => ?_⟩
      by_cases hb : b = c
      · rw [hb, owGo_c] at h; cases h
      · by_cases hs : S' b
        · rw [owGo_st hb hs hm] at h; cases h
        · rw [owGo_old hb (fun e => hs e.1), hm] at h; cases h
    · rw [old hm]
  · have := O.low b h1 h2
    rw [old (by rw [this]; exact Ow.noConfusion), this]
  · by_cases hm : ow b = .mn
    · by_cases hb : b = c
      · rw [hb, owGo_c] at h; cases h
      · by_cases hs : S' b
        · rw [owGo_st hb hs hm] at h; cases h
        · rw [owGo_old hb (fun e => hs e.1), hm] at h; cases h
    · rw [old hm] at h; have := O.wk _ _ h; omega
  · rw [upd_ne X y (by omega)]; exact O.out i (by omega)
  · by_cases e : i = j
    · subst e; rw [upd_same, hyS] at h; exact shS b h
    · rw [upd_ne X y e] at h; exact O.shw i (by omega) b h

/-- WHATEVER STEP OF THE STARTER's AT OR AHEAD OF ITS go STATEMENT. -/
theorem St.spawn (h : St P Sb ty Wg C n LW Rw Dr μ gs w t j X x ow a q) (h5 : x.tag = 5) : ∃ gs₁ w₁ ops μ', (CS P Sb gs w 0 gs₁ w₁ ops ∧ (gs₁.size ≠ gs.size → Deaf t 0 = 0)) ∧ Lt3 μ' μ ∧ InvA P Sb ty Wg C n LW Rw Dr μ' gs₁ w₁ (t ++ ops) := by
  have O := h.own
  have B := h.base
  have hq0 := h.lnk.sp (by omega)
  subst hq0
  have hlen := h.lnk.len
  have hmo := h.mo
  generalize hxx : x = x' at hmo
  cases hmo with
  | lane => rw [hxx] at h5; simp at h5
  | kd => rw [hxx] at h5; simp at h5
  | a1 => rw [hxx] at h5; simp at h5
  | ke => rw [hxx] at h5; simp at h5
  | rg => rw [hxx] at h5; simp at h5
  | pk => rw [hxx] at h5; simp at h5
  | door => rw [hxx] at h5; simp at h5
  | go hw =>
    rename_i ls rest L S M f c
    rcases hw.split with hstop | ⟨hrun, g', w', es, hgo, hgn, f', hsub, hK⟩
    · obtain ⟨hrn, g', child, S', hgo, hcr, hS', hMc, hcS, hCS, hch, hHas, hscr, hK⟩ := hstop
      have hrun := CS.spawn (P := P) (Sb := Sb) (i := 0) rfl h.ha (by simpa using hgo)
      obtain ⟨f1, hf1⟩ := hscr.way
      have hx1 : x.M = M := by rw [hxx]
      have hx2 : x.S = S := by rw [hxx]
      have hx3 : x.L = L := by rw [hxx]
      have hx4 : x.d = 0 := by rw [hxx]
      have hx5 : x.todo = ls :: rest := by rw [hxx]
      rw [hx1, hx2] at O
      have main : ∃ y : Mn, MOk P ty Wg C n LW Rw Dr (j + 1) y g' w ∧ y.todo = rest ∧ y.L = L ++ [(c, ls)] ∧ y.S = (fun b => S b ∨ S' b) ∧ y.M = (fun b => M b ∧ ¬ S' b ∧ b ≠ c) ∧ y.tag ≤ 9 ∧ y.tag ≠ 3 ∧ pendA y.tag = 0 ∧ y.d = 0 := by
        cases rest with
        | nil =>
          obtain ⟨f2, tag, h1, h2, h3, h4⟩ := MOk.ofRg (j := j + 1) (n := n) (C := C) (LW := LW) (L := L ++ [(c, ls)]) (fun e => by simp at e) hK
          refine ⟨_, h4, rfl, rfl, rfl, rfl, by show tag ≤ 9; omega, h2, ?_, rfl⟩
          show pendA tag = 0
          unfold pendA; rw [if_neg (by omega)]
        | cons l2 r2 =>
          obtain ⟨f2, hf2⟩ := hK
          exact ⟨⟨l2 :: r2, L ++ [(c, ls)], _, _, 9, f2, 0⟩, .lane hf2, rfl, rfl, rfl, rfl, Nat.le_refl 9, by simp, rfl, rfl⟩
      obtain ⟨y, hmo', y1, y2, y3, y4, y5, y6, y7, y8⟩ := main
      have hx' : ∀ x', x' = (⟨ls, c, fun _ => False, S', 9, f1, 0, 0⟩ : Wk) → ∃ gs₁ w₁ ops μ', (CS P Sb gs w 0 gs₁ w₁ ops ∧ (gs₁.size ≠ gs.size → Deaf t 0 = 0)) ∧ Lt3 μ' μ ∧ InvA P Sb ty Wg C n LW Rw Dr μ' gs₁ w₁ (t ++ ops) := by
        intro x' ex
        have xc : x'.c = c := by rw [ex]
        have x9 : x'.st = 9 := by rw [ex]
        have O' := O.go hS' hMc hcS hCS (y := x') xc (by rw [ex]) (fun b => by rw [ex]; exact id)
        have hun : ∀ i, i < j → upd X j x' i = X i := fun i hi => upd_ne X x' (by omega)
        have hst : ∀ (φ : Wk → Nat), sumTo (j + 1) (fun b => φ (upd X j x' b)) = sumTo j (fun b => φ (X b)) + φ x' := fun φ => by
          show sumTo j (fun b => φ (upd X j x' b)) + φ (upd X j x' j) = _
          rw [upd_same, sumTo_upd_out X x' φ (Nat.le_refl j)]
        generalize hxo : (⟨0, a.frame.fn, a.frame.place, .go gs.size⟩ : MemOp) = o1
        generalize hyo : (⟨gs.size, child.frame.fn, a.frame.place, .start⟩ : MemOp) = o2
        rw [hxo, hyo] at hrun
        have h1 : o1.g = 0 ∧ o1.act = .go (j + 1) := by rw [← hxo, ← B.size]; exact ⟨rfl, rfl⟩
        have h2 : o2.g = j + 1 ∧ o2.act = .start := by rw [← hyo, ← B.size]; exact ⟨rfl, rfl⟩
        have hm : ∀ op ∈ #[o1, o2], op = o1 ∨ op = o2 := by intro op hop; simpa using hop
        have hmute : ∀ op ∈ #[o1, o2], op.act.touch? = none := by
          intro op hop
          rcases hm op hop with rfl | rfl
          · rw [h1.2]; rfl
          · rw [h2.2]; rfl
        have hstl : ∀ op ∈ #[o1, o2], op.act ≠ .mark .disable ∧ op.act ≠ .mark .enable := by
          intro op hop
          rcases hm op hop with rfl | rfl
          · rw [h1.2]; exact ⟨by simp, by simp⟩
          · rw [h2.2]; exact ⟨by simp, by simp⟩
        have d0 : Deaf t 0 = 0 := by rw [B.deaf0, hx4]
        have hold : ∀ i, i < j → ((gs.setIfInBounds 0 g').push child)[i + 1]? = gs[i + 1]? := fun i hi => by
          rw [Array.getElem?_push_lt (by simp [B.size]; omega), ← Array.getElem?_eq_getElem, Array.getElem?_setIfInBounds_ne (by omega)]
        refine ⟨_, _, _, (rank y + sumTo (j + 1) (fun b => pot (upd X j x' b)), y.f :: lst (j + 1) (fun b => (upd X j x' b).f), sumTo (j + 1) (fun b => (upd X j x' b).m)), ⟨hrun, fun _ => d0⟩, ?_, j + 1, upd X j x', y, _, g', 0, ?_, hmo', ?_, by rw [y3, y4]; exact O', ?_,
          ⟨by rw [y2]; rw [hx3] at hlen; simp at hlen ⊢; omega, fun p c' ls' hp => ?_, fun h3 => absurd h3 y6, fun i hi => absurd hi (by omega), fun _ => rfl, fun h3 => absurd h3 y6⟩, by rw [y1]; have := h.num; rw [hx5] at this; simp at this; omega, rfl⟩
        · rw [h.mu]
          refine lt3_1 ?_
          rw [hst pot]
          have p1 : pot x' = 15 + 4 * ls.length := by rw [ex]; rfl
          have r1 : rank x = cst ls + (rest.map cst).sum + 4 * (L.length + (rest.length + 1)) + 5 := by unfold rank; rw [hx5, hx3, h5]; simp
          have r2 : rank y = (rest.map cst).sum + 4 * (L.length + 1 + rest.length) + y.tag := by unfold rank; rw [y1, y2]; simp
          have r3 : cst ls = 30 + 4 * ls.length := rfl
          omega
        · rw [Array.getElem?_push_lt (by simp [B.size]), ← Array.getElem?_eq_getElem, Array.getElem?_setIfInBounds_self_of_lt (by rw [B.size]; omega)]
        · have ct1 : CT (ShN Wg) (OwnF (upd X j x')) (RdF (upd X j x')) t j := ct_refam B.ct (fun k k1 kj l => by unfold OwnF; rw [hun (k - 1) (by omega)]) (fun k k1 kj l => by unfold RdF; rw [hun (k - 1) (by omega)])
          refine ⟨by simp [B.size], fun i hi => ?_, ct1.fork O'.apart h1 h2 d0, fun b z hz hzm => B.low b z (touch_old hmute hz) hzm, B.norel.app fun op hop => ?_, by rw [Deaf_still t 0 _ hstl, y8]; exact d0, fun i hi => ?_, fun i hi hs => ?_, fun i hi => ?_, B.pay, fun i hi => ?_, fun i hi => ?_⟩
          · rcases Nat.lt_or_ge i j with hlt | hge
            · obtain ⟨z, hz, hs⟩ := B.wk i hlt
              exact ⟨z, by rw [hold i hlt]; exact hz, by rw [hun i hlt]; exact hs⟩
            · obtain rfl : i = j := by omega
              refine ⟨child, ?_, by rw [upd_same, ex]; exact .way hf1⟩
              have hss : (gs.setIfInBounds 0 g').size = i + 1 := by simp [B.size]
              rw [← hss, Array.getElem?_push_size]
          · rcases hm op hop with rfl | rfl
            · rw [h1.2]; simp
            · rw [h2.2]; simp
          · rw [Deaf_still t _ _ hstl]
            rcases Nat.lt_or_ge i j with hlt | hge
            · rw [B.deafW i hlt, hun i hlt]
            · obtain rfl : i = j := by omega
              rw [upd_same, ex]
              exact Deaf_absent fun b op hb e => by have := B.ct.gs b op hb; omega
          · rcases Nat.lt_or_ge i j with hlt | hge
            · rw [hun i hlt] at hs
              obtain ⟨r, hr⟩ := B.rel i hlt hs
              refine ⟨r, hr.appNot fun op hop => ?_⟩
              rcases hm op hop with rfl | rfl
              · rw [h1.1]; omega
              · rw [h2.1]; omega
            · obtain rfl : i = j := by omega
              rw [upd_same, x9] at hs; omega
          · rcases Nat.lt_or_ge i j with hlt | hge
            · rw [hun i hlt]; exact B.has i hlt
            · obtain rfl : i = j := by omega
              rw [upd_same, xc]; exact hHas
          · rcases Nat.lt_or_ge i j with hlt | hge
            · rw [hun i hlt]; exact B.ch i hlt
            · obtain rfl : i = j := by omega
              rw [upd_same, xc, x9]; exact ⟨0, hch⟩
          · rcases Nat.lt_or_ge i j with hlt | hge
            · rw [hun i hlt]; exact B.low7 i hlt
            · obtain rfl : i = j := by omega
              rw [upd_same, x9]; exact .inl rfl
        · have hc : cntA (j + 1) (upd X j x') = cntA j X + 1 := by
            have := hst cnt1
            have e1 : cnt1 x' = 1 := by unfold cnt1; rw [x9]; rfl
            rw [e1] at this
            exact this
          have hwg := h.wg
          rw [h5, show pendA 5 = 1 from rfl] at hwg
          rw [hc, y7, Nat.add_zero]
          exact hwg
        · rw [y2] at hp
          rcases Nat.lt_or_ge p L.length with hlt | hge
          · rw [List.getElem?_append_left hlt] at hp
            rw [hx3] at hlen
            rw [hun (0 + p) (by omega)]
            exact h.lnk.at_ p c' ls' (by rw [hx3]; exact hp)
          · rw [List.getElem?_append_right hge] at hp
            rw [hx3] at hlen
            have e0 : p - L.length = 0 := by
              rcases Nat.eq_zero_or_pos (p - L.length) with e | e
              · exact e
              · rw [List.getElem?_eq_none (by simp; omega)] at hp; cases hp
            rw [e0] at hp
            simp at hp
            obtain ⟨rfl, rfl⟩ := hp
            rw [show 0 + p = j by omega, upd_same, ex]
            exact ⟨rfl, rfl⟩
      exact hx' _ rfl
    · exact h.go0 hgo (by rw [hxx]; exact hgn) (y := ⟨ls :: rest, L, S, more M w w', 5, f', 0⟩) (by rw [hxx]; exact ⟨rfl, rfl, rfl, rfl, rfl⟩) (by rw [hxx]) (.go hK) (by rw [h5]; simp) (by rw [hxx]; exact hsub)
end

end Go.Proofs.Ytkbfcaaihellfaa

/- Workers with lanes and their starter: the starter at its receives. No program in sight. -/
namespace Go.Proofs.Ytkbfcaaihellfaa
open Go.Conc Go.ConcN
open Go.ConcR (KK wgBlock WgAt stA smA rd wr mk Payload Aside2 DC0 Bk g_of_ofEvents)
set_option linter.unusedVariables false
set_option linter.unusedSectionVars false

section
variable [Payload] {P : Program} {Sb : Nat → Prop} {ty : TypeId} {Wg C n LW : Nat} {Rw : List Int → Nat → Obj → Value → Prop} {Dr : (Nat → Prop) → (Nat → Prop) → Goroutine → World → Prop}
variable {μ : Mu} {gs gs' : Array Goroutine} {w w' : World} {sl : Option (Nat × Nat)} {t : Trace} {j q : Nat} {X : Nat → Wk} {x : Mn} {ow : Nat → Ow} {a g g' : Goroutine}

theorem St.noSend (h : St P Sb ty Wg C n LW Rw Dr μ gs w t j X x ow a q) {c : Nat} (hc : ∀ i, i < j → (X i).st = 8 → (X i).c ≠ c) : partners (gs.setIfInBounds 0 ph) c true = [] := by
  refine partners_nil fun k y hk => ?_
  rcases getElem?_stand gs 0 k y hk with ⟨_, rfl⟩ | ⟨hne, hk'⟩
  · exact offersAt_ph _ _
  · obtain ⟨k, rfl⟩ : ∃ k', k = k' + 1 := ⟨k - 1, by omega⟩
    have hkj : k < j := by have := (Array.getElem?_eq_some_iff.1 hk').1; rw [h.base.size] at this; omega
    obtain ⟨y', hy', hs⟩ := h.base.wk k hkj
    rw [hk'] at hy'; cases hy'
    exact hs.noSend (hc k hkj)

/-- WHATEVER STEP OF THE STARTER's AT OR AHEAD OF A RECEIVE. -/
theorem St.recv (h : St P Sb ty Wg C n LW Rw Dr μ gs w t j X x ow a q) (h4 : x.tag = 4) : ∃ gs₁ w₁ ops μ', (CS P Sb gs w 0 gs₁ w₁ ops ∧ (gs₁.size ≠ gs.size → Deaf t 0 = 0)) ∧ Lt3 μ' μ ∧ InvA P Sb ty Wg C n LW Rw Dr μ' gs₁ w₁ (t ++ ops) := by
  have O := h.own
  have B := h.base
  have hlen := h.lnk.len
  have hmo := h.mo
  generalize hxx : x = x' at hmo
  cases hmo with
  | lane => rw [hxx] at h4; simp at h4
  | kd => rw [hxx] at h4; simp at h4
  | a1 => rw [hxx] at h4; simp at h4
  | ke => rw [hxx] at h4; simp at h4
  | go => rw [hxx] at h4; simp at h4
  | pk => rw [hxx] at h4; simp at h4
  | door => rw [hxx] at h4; simp at h4
  | rg hw =>
    rename_i c ls rest S M f
    have hx1 : x.M = M := by rw [hxx]
    have hx2 : x.S = S := by rw [hxx]
    have hx3 : x.L = (c, ls) :: rest := by rw [hxx]
    have hx4 : x.d = 0 := by rw [hxx]
    have hx5 : x.todo = [] := by rw [hxx]
    obtain ⟨hcq, hrows⟩ := h.lnk.at_ 0 c ls (by rw [hx3]; rfl)
    simp only [Nat.add_zero] at hcq hrows
    have hqj : q < j := by rw [hx3] at hlen; simp at hlen; omega
    rcases hw.split with hstop | ⟨hrun, g', w', es, hgo, hgn, f', hsub, hK⟩
    · obtain ⟨g₂, z, hall⟩ := (rstop_iff P ty Wg Rw).1 hstop
      obtain ⟨⟨hr1, hr2, hr3, hr4⟩, haft⟩ := hall w (RM.refl w)
      have hgo := hr4 w.drawn
      rw [at_self] at hgo
      have hgo' : stepG P (0 == 0) a w = .comm g₂ #[rcase c z] true (.recv true) w #[] := by simpa using hgo
      have hops : MemOp.ofEvents 0 a.frame.fn a.frame.place #[] = #[] := rfl
      obtain ⟨s, hch⟩ := B.ch q hqj
      rw [hcq] at hch
      have onlyq : ∀ i, i < j → (X i).c = c → i = q := fun i hi e => O.cc i q hi hqj (e.trans hcq.symm)
      rcases B.low7 q hqj with h9 | h8 | hle
      · -- IT IS PARKED
        rw [h9] at hch
        have hrun := CS.waits (P := P) (Sb := Sb) h.ha hgo' (fun cc hcc => by
          simp at hcc
          subst hcc
          exact ways_recv_none (z := z) hch (h.noSend fun i hi h8 e => by have := onlyq i hi e; subst this; omega))
        refine ⟨_, _, _, (rank ⟨[], (c, ls) :: rest, S, M, 3, .leaf, 0⟩ + sumTo j (fun b => pot (X b)), Tr.leaf :: lst j (fun b => (X b).f), sumTo j (fun b => (X b).m)), ⟨hrun, fun e => absurd (by simp) e⟩, ?_, j, X, ⟨[], (c, ls) :: rest, S, M, 3, .leaf, 0⟩, ow, _, q, by rw [Array.getElem?_setIfInBounds_self_of_lt (by rw [B.size]; omega)],
          .pk (fun w₁ h₁ => ⟨(hall w₁ h₁).1.self, (hall w₁ h₁).2⟩), ?_, by rw [hx1, hx2] at O; exact O, ?_, ⟨by rw [hx3] at hlen; exact hlen, by have := h.lnk.at_; rw [hx3] at this; exact this, fun _ => h9, h.lnk.past, fun h5 => by simp at h5, fun _ => by simp⟩, by have := h.num; rw [hx5] at this; exact this, rfl⟩
        · rw [h.mu]
          have r1 : rank x = 4 * (rest.length + 1) + 4 := by unfold rank; rw [hx5, hx3, h4]; simp
          have r2 : rank ⟨[], (c, ls) :: rest, S, M, 3, .leaf, 0⟩ = 4 * (rest.length + 1) + 3 := by simp [rank]
          exact lt3_1 (by omega)
        · simp only [Array.append_empty]
          refine ⟨by simp [B.size], fun i hi => ?_, B.ct, B.low, B.norel, by rw [B.deaf0, hx4], B.deafW, B.rel, B.has, B.pay, B.ch, B.low7⟩
          obtain ⟨y, hy, hs⟩ := B.wk i hi
          exact ⟨y, by rw [Array.getElem?_setIfInBounds_ne (by omega)]; exact hy, hs⟩
        · have := h.wg; rw [h4] at this; exact this
      · -- A ROW
        rw [h8] at hch
        obtain ⟨y, hy, hs⟩ := B.wk q hqj
        generalize hX : X q = xq at hs
        cases hs with
        | way => rw [hX] at h8; simp at h8
        | tail7 => rw [hX] at h8; simp at h8
        | tail h6 => rw [hX] at h8; simp at h8; omega
        | park hr ho hv hK =>
          rename_i xs l c' r M' S' o v z' gw
          have eM : (X q).M = M' := by rw [hX]
          have eS : (X q).S = S' := by rw [hX]
          obtain rfl : c' = c := by rw [← hcq, hX]
          obtain rfl : ls = xs :: l := by rw [← hrows, hX]
          have hpart : partners (gs.setIfInBounds 0 ph) c' true = [(q + 1, 0)] := by
            rw [partners_one (j := q + 1) (g := parked gw #[scase c' v z'] .send) (by rw [Array.getElem?_setIfInBounds_ne (by omega)]; exact hy) (fun k y' hk hy' => ?_), offersAt_parked_send, if_pos rfl]
            · rfl
            · rcases getElem?_stand gs 0 k y' hy' with ⟨_, rfl⟩ | ⟨hne, hy''⟩
              · exact offersAt_ph _ _
              · obtain ⟨k, rfl⟩ : ∃ k', k = k' + 1 := ⟨k - 1, by omega⟩
                have hkj : k < j := by have := (Array.getElem?_eq_some_iff.1 hy'').1; rw [B.size] at this; omega
                obtain ⟨y3, hy3, hs3⟩ := B.wk k hkj
                rw [hy''] at hy3; cases hy3
                exact hs3.noSend fun _ e => hk (by rw [onlyq k hkj e])
          have hrun := CS.recvMeets (P := P) (Sb := Sb) h.ha hgo' hch (j := q + 1) (by omega) hy hpart
          obtain ⟨μ', h1, h2⟩ := h.meet hqj (c := c') (r := r) (s := s) (xs := xs) (l := l) (rest := rest) (o := o) (v := v) (g₂ := gw) (gm := g₂) (gs' := (gs.setIfInBounds (q + 1) (Go.Conc.served gw undef)).setIfInBounds 0 (Go.Conc.served g₂ (recvd true v true))) hx5 hx3 (.inr ⟨h4, h8⟩) hx4 (by rw [hX]) (by rw [eM]; exact hr) ho hv (by rw [eM, eS]; exact hK) (by rw [hx1, hx2]; exact haft)
            hch (by simp) (by rw [Array.getElem?_setIfInBounds_self_of_lt (by simp [B.size])]) (by rw [Array.getElem?_setIfInBounds_ne (by omega), Array.getElem?_setIfInBounds_self_of_lt (by rw [B.size]; omega)])
            (fun b h1 h2 => by rw [Array.getElem?_setIfInBounds_ne (fun e => h1 e.symm), Array.getElem?_setIfInBounds_ne (fun e => h2 e.symm)]) gw.frame.fn gw.frame.place g₂.frame.fn g₂.frame.place
          refine ⟨_, _, _, μ', ⟨hrun, fun e => absurd (by simp) e⟩, h1, ?_⟩
          simp only [finishComm_recv, finishComm_send]
          exact h2
      · -- THE LANE's END
        have h7 : (X q).st ≤ 7 := by omega
        rw [show decide ((X q).st ≤ 7) = true from decide_eq_true h7] at hch
        obtain ⟨y, hy, hs⟩ := B.wk q hqj
        have hnil : (X q).rows = [] := by
          generalize hX : X q = xq at hs h7
          cases hs with
          | way => simp at h7
          | park => simp at h7
          | tail7 => rfl
          | tail => rfl
        obtain rfl : ls = [] := by rw [← hrows, hnil]
        have hrun := CS.recvClosed (P := P) (Sb := Sb) h.ha hgo' hch (h.noSend fun i hi h8 e => by have := onlyq i hi e; subst this; omega)
        simp only [finishComm_recv] at hrun
        obtain ⟨f2, tag, t1, t2, t3, hmo'⟩ := MOk.ofRg (P := P) (ty := ty) (Wg := Wg) (C := C) (n := n) (LW := LW) (Rw := Rw) (Dr := Dr) (j := j) (L := rest) (S := S) (M := M) (g := Go.Conc.served g₂ (recvd true z false)) (w := w) (fun e w₁ h₁ => by have := (hall w₁ h₁).2; subst e; exact this) haft
        refine ⟨_, _, _, (rank ⟨[], rest, S, M, tag, f2, 0⟩ + sumTo j (fun b => pot (X b)), f2 :: lst j (fun b => (X b).f), sumTo j (fun b => (X b).m)), ⟨hrun, fun e => absurd (by simp) e⟩, ?_, j, X, ⟨[], rest, S, M, tag, f2, 0⟩, ow, _, q + 1, by rw [Array.getElem?_setIfInBounds_self_of_lt (by rw [B.size]; omega)],
          hmo', ?_, by rw [hx1, hx2] at O; exact O, ?_, ⟨by rw [hx3] at hlen; simp at hlen ⊢; omega, fun p c' ls' hp => ?_, fun h3 => absurd h3 t2, fun i hi => ?_, fun h5 => by have : tag ≤ 4 := t1; simp at h5; omega, fun h3 => absurd h3 t2⟩, by have := h.num; rw [hx5] at this; exact this, rfl⟩
        · rw [h.mu]
          have r1 : rank x = 4 * (rest.length + 1) + 4 := by unfold rank; rw [hx5, hx3, h4]; simp
          have r2 : rank ⟨[], rest, S, M, tag, f2, 0⟩ = 4 * rest.length + tag := by simp [rank]
          exact lt3_1 (by omega)
        · have hmute : ∀ op ∈ (#[{ g := 0, fn := g₂.frame.fn, pos := g₂.frame.place, act := .recvClosed c }] : Trace), op.act.touch? = none := by intro op hop; simp at hop; subst hop; rfl
          have hstl : ∀ op ∈ (#[{ g := 0, fn := g₂.frame.fn, pos := g₂.frame.place, act := .recvClosed c }] : Trace), op.act ≠ .mark .disable ∧ op.act ≠ .mark .enable := by intro op hop; simp at hop; subst hop; exact ⟨by simp, by simp⟩
          refine ⟨by simp [B.size], fun i hi => ?_, ct_mute B.ct hmute (fun op hop => by simp at hop; subst hop; exact Nat.zero_le _), fun b z hz hzm => B.low b z (touch_old hmute hz) hzm, B.norel.app fun op hop => by simp at hop; subst hop; simp, by rw [Deaf_still t 0 _ hstl, B.deaf0, hx4], fun i hi => by rw [Deaf_still t _ _ hstl, B.deafW i hi], fun i hi hs' => ?_, B.has, B.pay, B.ch, B.low7⟩
          · obtain ⟨y', hy', hs'⟩ := B.wk i hi
            exact ⟨y', by rw [Array.getElem?_setIfInBounds_ne (by omega)]; exact hy', hs'⟩
          · obtain ⟨r, hr⟩ := B.rel i hi hs'
            exact ⟨r, hr.appNot fun op hop => by simp at hop; subst hop; show 0 ≠ i + 1; omega⟩
        · have := h.wg; rw [h4] at this
          have e : pendA tag = pendA 4 := by unfold pendA; rw [if_neg (by omega), if_neg (by omega)]
          show WgAt ty Wg w (((cntA j X + pendA tag : Nat) : Int) * KK) 0
          rw [e]; exact this
        · have := h.lnk.at_ (p + 1) c' ls' (by rw [hx3]; simpa using hp)
          rw [show q + 1 + p = q + (p + 1) by omega]; exact this
        · rcases Nat.lt_or_ge i q with hlt | hge
          · exact h.lnk.past i hlt
          · obtain rfl : i = q := by omega
            exact h7
    · exact h.go0 hgo (by rw [hxx]; exact hgn) (y := ⟨[], (c, ls) :: rest, S, more M w w', 4, f', 0⟩) (by rw [hxx]; exact ⟨rfl, rfl, rfl, rfl, rfl⟩) (by rw [hxx]) (.rg hK) (by rw [h4]; simp) (by rw [hxx]; exact hsub)

/-! ### one step of the machine -/
theorem WOk.run9 {k : Nat} {y : Wk} (h : WOk P ty Wg C n LW Rw k y g w) (h9 : y.st = 9) : g.status = .running := by
  cases h with
  | way hw => exact hw.running fun _ _ _ => WStop.running
  | park => simp at h9
  | tail7 => simp at h9
  | tail h6 => simp at h9; omega
theorem St.runs (h : St P Sb ty Wg C n LW Rw Dr μ gs w t j X x ow a q) (hD : ∀ S M g w, Dr S M g w → g.status = .running) : ∃ (i : Nat) (g : Goroutine), gs[i]? = some g ∧ g.status = .running := by
  rcases h.mo.status hD with ⟨hs, _⟩ | ⟨h3, _⟩
  · exact ⟨0, a, h.ha, hs⟩
  · have hqj : q < j := by have := h.lnk.len; have := h.lnk.pos h3; omega
    obtain ⟨g, hg, hs⟩ := h.base.wk q hqj
    exact ⟨q + 1, g, hg, hs.run9 (h.lnk.pk h3)⟩
theorem St.awake (h : St P Sb ty Wg C n LW Rw Dr μ gs w t j X x ow a q) (hD : ∀ S M g w, Dr S M g w → g.status = .running) : ∀ g ∈ gs, awake g := by
  intro g hg tm
  obtain ⟨i, hi⟩ := Array.mem_iff_getElem?.1 hg
  cases i with
  | zero =>
    rw [h.ha] at hi; cases hi
    rcases h.mo.status hD with ⟨hs, _⟩ | ⟨_, c, ls, rest, g₂, z, _, rfl⟩
    · rw [hs]; simp
    · simp [parked]
  | succ i =>
    have hlt : i < j := by have := (Array.getElem?_eq_some_iff.1 hi).1; rw [h.base.size] at this; omega
    obtain ⟨g', hg', hs⟩ := h.base.wk i hlt
    rw [hi] at hg'; cases hg'
    rcases hs.status with (h | h) | ⟨_, g₂, v, z', rfl⟩
    · rw [h]; simp
    · rw [h]; simp
    · simp [parked]
/-- nobody can be woken -/
theorem St.still (h : St P Sb ty Wg C n LW Rw Dr μ gs w t j X x ow a q) (hD : ∀ S M g w, Dr S M g w → g.status = .running) : ∀ g ∈ gs, g.again w = g := by
  intro g hg
  obtain ⟨i, hi⟩ := Array.mem_iff_getElem?.1 hg
  cases i with
  | zero =>
    rw [h.ha] at hi; cases hi
    rcases h.mo.status hD with ⟨hs, _⟩ | ⟨h3, c, ls, rest, g₂, z, hL, rfl⟩
    · exact again_running w (.inl hs)
    · obtain ⟨_, _, s, hs⟩ := h.open3 h3 hL
      exact again_recv_open hs
  | succ i =>
    have hlt : i < j := by have := (Array.getElem?_eq_some_iff.1 hi).1; rw [h.base.size] at this; omega
    obtain ⟨g', hg', hs⟩ := h.base.wk i hlt
    rw [hi] at hg'; cases hg'
    obtain ⟨s, hch⟩ := h.base.ch i hlt
    rcases hs.status with h | ⟨h8, _⟩
    · exact again_running w h
    · generalize hX : X i = y at hs h8
      cases hs with
      | way => simp at h8
      | park => rw [hX] at hch; exact again_send_open hch
      | tail7 => simp at h8
      | tail h6 => simp at h8; omega
/-- ONE STEP, whoever is picked, unless the starter stands at the door of Wait. -/
theorem St.step (h : St P Sb ty Wg C n LW Rw Dr μ gs w t j X x ow a q) (hD : ∀ S M g w, Dr S M g w → g.status = .running) (hn : n < 2147483647) (h2 : x.tag ≠ 2) {i : Nat} (hg : gs[i]? = some g) (hrun : g.status = .running) :
    ∃ gs₁ w₁ ops μ', (CS P Sb gs w i gs₁ w₁ ops ∧ (gs₁.size ≠ gs.size → Deaf t 0 = 0)) ∧ Lt3 μ' μ ∧ InvA P Sb ty Wg C n LW Rw Dr μ' gs₁ w₁ (t ++ ops) := by
  cases i with
  | zero =>
    rw [h.ha] at hg; cases hg
    have htag : x.tag = 2 ∨ x.tag = 3 ∨ x.tag = 4 ∨ x.tag = 5 ∨ 6 ≤ x.tag := by
      have hmo := h.mo
      cases hmo <;> simp
    rcases htag with e | e | e | e | e
    · exact absurd e h2
    · rcases h.mo.status hD with ⟨_, hne⟩ | ⟨_, c, ls, rest, g₂, z, _, rfl⟩
      · exact absurd e hne
      · simp [parked] at hrun
    · exact h.recv e
    · exact h.spawn e
    · exact h.spawnUp hn e
  | succ i =>
    have hi : i < j := by have := (Array.getElem?_eq_some_iff.1 hg).1; rw [h.base.size] at this; omega
    rcases h.base.low7 i hi with e | e | e
    · exact h.way hD hi hg e
    · obtain ⟨g', hg', hs⟩ := h.base.wk i hi
      rw [hg] at hg'; cases hg'
      generalize hX : X i = y at hs e
      cases hs with
      | way => simp at e
      | park => simp [parked] at hrun
      | tail7 => simp at e
      | tail h6 => simp at e; omega
    · exact h.tail hD hn hi hg hrun (by omega)
end

end Go.Proofs.Ytkbfcaaihellfaa
