/- Steps on the way to the law; each part says what it proves. -/
import Derived.Test.YtkbfcaaihellfaaU7
import Derived.Test.YtkbfcaaihellfaaU1
import Derived.Test.YtkbfcaaihellfaaU3
import Derived.Conc.Strewn

set_option linter.unusedSimpArgs false

/- Workers with lanes and their starter: none of their steps turns the outside, the tape, what was put out. -/
namespace Go.Proofs.Ytkbfcaaihellfaa
open Go.Conc Go.ConcN
open Go.ConcR (KK wgBlock WgAt stA smA rd wr mk Payload Aside2 DC0 Bk g_of_ofEvents)
set_option linter.unusedVariables false
set_option linter.unusedSectionVars false
set_option linter.unusedSimpArgs false

def Kept (w w' : World) : Prop := w'.tape = w.tape ∧ w'.os = w.os ∧ w'.output = w.output
theorem Kept.refl (w : World) : Kept w w := ⟨rfl, rfl, rfl⟩
theorem Kept.trans {a b c : World} (h : Kept a b) (k : Kept b c) : Kept a c := ⟨k.1.trans h.1, k.2.1.trans h.2.1, k.2.2.trans h.2.2⟩
/-- It asks nothing of the outside and touches no memory. -/
def Asks {α : Type} : Sem α → Prop
  | .pure _ | .halt _ => True
  | .choose _ k => ∀ n, Asks (k n)
  | .program k => ∀ p, Asks (k p)
  | _ => False
theorem asks_kept {P : Program} {α : Type} : ∀ (s : Sem α), Asks s → ∀ w, Kept w (resw (s.run P w)) ∧ (resw (s.run P w)).heap = w.heap := by
  intro s
  induction s with
  | pure a => exact fun _ w => ⟨Kept.refl w, rfl⟩
  | halt h => exact fun _ w => ⟨Kept.refl w, rfl⟩
  | choose q k ih =>
    intro h w
    unfold Sem.run
    split
    · exact ih _ (h _) w
    · obtain ⟨h1, h2⟩ := ih _ (h _) { w with drawn := w.drawn + 1 }
      exact ⟨⟨h1.1, h1.2.1, h1.2.2⟩, h2⟩
  | program k ih => exact fun h w => ih P (h P) w
  | _ => exact fun h => h.elim
theorem kept_comm {p : Program} {rest : Rest} {gs : Array Goroutine} {i : Nat} {g : Goroutine} {cases : Array CommCase} {blocking : Bool} {shape : CommShape} {w : World} {m' : Machine} {ops : Array MemOp} (ht : rest.timers = #[])
    (h : communicate p rest gs i g cases blocking shape w = (.next m', ops)) : Kept w m'.world := by
  have hw : waitingAt rest cases w = some w := by
    unfold waitingAt timerAhead
    rw [ht]
    rw [if_neg]
    simp
    intro i hi
    split <;> simp
  unfold communicate at h
  dsimp only at h
  split at h
  · cases h
  · split at h
    · split at h
      · rw [hw] at h
        cases h
        exact Kept.refl _
      · cases h
        exact Kept.refl _
    · split at h
      · cases h
      · rename_i hr
        rename_i k c way w2
        have hk : ∀ {α : Type} {s : Sem α} {x : α} {w w2 : World}, s.run p w = .ok x w2 → Asks s → Kept w w2 := fun {α s x w w2} he ha => by have := (asks_kept (P := p) s ha w).1; rw [he] at this; exact this
        have h2 : Kept w w2 := hk hr (fun n m => trivial)
        split at h
        · split at h
          · rename_i hp
            have : ∀ {s : Sem Unit} {v : Value} {w3 : World}, s.run p w2 = .halt (.panic v) w3 → Asks s → Kept w2 w3 := fun {s v w3} he ha => by have := (asks_kept (P := p) s ha w2).1; rw [he] at this; exact this
            cases h
            exact h2.trans (this hp (fun _ => trivial))
          · cases h
        · cases h; exact h2
        · cases h; exact h2
        · split at h
          · cases h; exact h2
          · split at h
            · rename_i hp
              have := hk hp (fun _ => trivial)
              cases h
              exact h2.trans this
            · cases h
        · cases h; exact h2
        · cases h; exact h2
        · cases h

def GStepK (w : World) : GStep → Prop
  | .go _ w' _ | .comm _ _ _ _ w' _ | .spawn _ _ w' _ => Kept w w'
  | _ => False
theorem runT_kept {P : Program} {gs : Array Goroutine} {w : World} {sl : Option (Nat × Nat)} {i : Nat} {g : Goroutine} {m' : Machine} {ops : Array MemOp} (hi : gs[i]? = some g) (hk : GStepK w (stepG P (i == 0) g w)) (h : runT P (crowd gs w sl) i = (.next m', ops)) : Kept w m'.world := by
  obtain ⟨hlt, rfl⟩ := Array.getElem?_eq_some_iff.1 hi
  have hsw := swapAt_of_lt hlt { (default : Goroutine) with status := .finished }
  change runT P { world := w, gs := gs, rest := { timers := #[], alone := none, slice := sl } } i = _ at h
  unfold runT at h
  simp only [hsw] at h
  generalize stepG P (i == 0) gs[i] w = s at h hk
  cases s with
  | go g' w' es => cases h; exact hk
  | comm g' cs b sh w' es =>
    simp only at h
    simp only [Prod.mk.injEq] at h
    obtain ⟨h1, _⟩ := h
    exact Kept.trans hk (kept_comm rfl (Prod.ext h1 rfl))
  | spawn g' c w' es => cases h; exact hk
  | _ => exact hk.elim

section
variable [Payload] {P : Program} {Sb : Nat → Prop} {ty : TypeId} {Wg C n LW : Nat} {Rw : List Int → Nat → Obj → Value → Prop} {Dr : (Nat → Prop) → (Nat → Prop) → Goroutine → World → Prop}
variable {μ : Mu} {gs : Array Goroutine} {w : World} {sl : Option (Nat × Nat)} {t : Trace} {j q : Nat} {X : Nat → Wk} {x : Mn} {ow : Nat → Ow} {a g : Goroutine}
theorem kept_set (w : World) (a : Addr) (v : Value) : Kept w (w.setCell a v) := ⟨rfl, rfl, rfl⟩
theorem GN.kept {main : Bool} {M S : Nat → Prop} {w w' : World} {es : Array Event} (h : GN main Wg M S w w' es) : Kept w w' := ⟨h.tape, h.os, h.output⟩
theorem St.mainK (h : St P Sb ty Wg C n LW Rw Dr μ gs w t j X x ow a q) (hn : n < 2147483647) (h2 : x.tag ≠ 2) (hrun : a.status = .running) : GStepK w (stepG P true a w) := by
  have hmo := h.mo
  have hwg := h.wg
  have B := h.base
  have hnum := h.num
  generalize hxx : x = x' at hmo h2
  cases hmo with
  | door => exact absurd rfl h2
  | pk => simp [parked] at hrun
  | lane hw =>
    rcases hw.split with hstop | ⟨_, g', w', es, hgo, hgn, _⟩
    · obtain ⟨_, g', c, _, _, hgo, _⟩ := hstop
      rw [hgo]; exact kept_set _ _ _
    · rw [hgo]; exact hgn.kept
  | kd hw =>
    rcases hw.split with hstop | ⟨_, g', w', es, hgo, hgn, _⟩
    · obtain ⟨_, g', hgo, _⟩ := hstop
      rw [hgo]; exact Kept.refl w
    · rw [hgo]; exact hgn.kept
  | a1 hw =>
    rcases hw.split with hstop | ⟨_, g', w', es, hgo, hgn, _⟩
    · obtain ⟨_, hall⟩ := hstop
      have hcl : cntA j X ≤ j := by unfold cntA; exact Nat.le_trans (sumTo_le (c := 1) fun b _ => by split <;> omega) (by omega)
      have hp : pendA x.tag = 0 := by rw [hxx]; rfl
      rw [hp] at hwg
      obtain ⟨g', hgo, _⟩ := hall (cntA j X) (by have : j ≤ n := by omega
                                                 omega) (by simpa using hwg)
      rw [hgo]; exact kept_set _ _ _
    · rw [hgo]; exact hgn.kept
  | ke hw =>
    rcases hw.split with hstop | ⟨_, g', w', es, hgo, hgn, _⟩
    · obtain ⟨_, g', hgo, _⟩ := hstop
      rw [hgo]; exact Kept.refl w
    · rw [hgo]; exact hgn.kept
  | go hw =>
    rcases hw.split with hstop | ⟨_, g', w', es, hgo, hgn, _⟩
    · obtain ⟨_, g', child, S', hgo, _⟩ := hstop
      rw [hgo]; exact Kept.refl w
    · rw [hgo]; exact hgn.kept
  | rg hw =>
    rcases hw.split with hstop | ⟨_, g', w', es, hgo, hgn, _⟩
    · obtain ⟨g₂, z, hall⟩ := (rstop_iff P ty Wg Rw).1 hstop
      have hgo := (hall w (RM.refl w)).1.2.2.2 w.drawn
      rw [at_self] at hgo
      rw [hgo]; exact Kept.refl w
    · rw [hgo]; exact hgn.kept
theorem St.wkK (h : St P Sb ty Wg C n LW Rw Dr μ gs w t j X x ow a q) (hn : n < 2147483647) {i : Nat} (hi : i < j) (hg : gs[i + 1]? = some g) (hrun : g.status = .running) : GStepK w (stepG P false g w) := by
  have B := h.base
  have hwg := h.wg
  have hnum := h.num
  obtain ⟨g₁, hg₁, hs⟩ := B.wk i hi
  obtain rfl : g = g₁ := by rw [hg] at hg₁; exact Option.some.inj hg₁
  obtain ⟨s, hch⟩ := B.ch i hi
  have low7 := B.low7 i hi
  have cs := sumX (X := X) cnt1 hi ((X i).to 0 0 0)
  generalize hX : X i = y at hs
  cases hs with
  | park => simp [parked] at hrun
  | way hway =>
    rename_i rows c M S f m
    rcases hway.split with hstop | ⟨_, g', w', es, hgo, hgn, _⟩
    · cases rows with
      | nil =>
        obtain ⟨_, _, g', _, hstep, _⟩ := hstop
        have hgo := hstep s (by rw [hX] at hch; exact hch) w.drawn
        rw [at_self] at hgo
        rw [hgo]; exact ⟨rfl, rfl, rfl⟩
      | cons xs rest =>
        obtain ⟨_, r, o, v, _, _, _, g₂, z', hgo, _⟩ := hstop
        have hgo := hgo w.drawn
        rw [at_self] at hgo
        rw [hgo]; exact Kept.refl w
    · rw [hgo]; exact hgn.kept
  | tail7 hgs =>
    rcases Goes.cases hgs with hstop | ⟨m', rfl, hstep⟩
    · obtain ⟨_, _, g', hgo, _⟩ := hstop w (RW.refl w)
      rw [hgo]; exact Kept.refl w
    · obtain ⟨g', w', es, hgo, ⟨e1, e2⟩, _⟩ := hstep w (RW.refl w)
      rw [hgo, e1]; exact Kept.refl w
  | tail h6 hsit =>
    rename_i s' m d
    have hst : (X i).st = s' := by rw [hX]
    rw [hst] at low7
    cases hsit with
    | r0 _ => omega
    | d2 _ => omega
    | d3 _ => omega
    | d4 _ => omega
    | k1 hgs =>
      rcases Goes.cases hgs with hstop | ⟨m', rfl, hstep⟩
      · obtain ⟨_, g', hgo, _⟩ := hstop w (RW.refl w)
        rw [hgo]; exact Kept.refl w
      · obtain ⟨g', w', es, hgo, ⟨e1, e2⟩, _⟩ := hstep w (RW.refl w)
        rw [hgo, e1]; exact Kept.refl w
    | d1 hgs =>
      rcases Goes.cases hgs with hstop | ⟨m', rfl, hstep⟩
      · obtain ⟨_, hall⟩ := hstop w (RW.refl w)
        have hcn : cntA j X = sumTo j (fun b => cnt1 (X b)) := rfl
        have hci : cnt1 (X i) = 1 := by unfold cnt1; rw [hst]; rfl
        have hc0 : cnt1 ((X i).to 0 0 0) = 0 := rfl
        have hcl : cntA j X ≤ j := by unfold cntA; exact Nat.le_trans (sumTo_le (c := 1) fun b _ => by split <;> omega) (by omega)
        have hpd : pendA x.tag ≤ 1 := by unfold pendA; split <;> omega
        obtain ⟨v, hv⟩ : ∃ v, cntA j X + pendA x.tag = v + 1 := ⟨cntA j X + pendA x.tag - 1, by rw [hcn]; omega⟩
        rw [hv] at hwg
        have hw1 : WgAt ty Wg w (((v : Nat) + 1) * KK + ((0 : Nat) : Int)) 0 := by simpa using hwg
        obtain ⟨g', hgo, _⟩ := hall v 0 (by omega) (by have : j ≤ n := by omega
                                                       omega) hw1
        rw [hgo]; exact kept_set _ _ _
      · obtain ⟨g', w', es, hgo, ⟨e1, e2⟩, _⟩ := hstep w (RW.refl w)
        rw [hgo, e1]; exact Kept.refl w
    | quit hgs =>
      cases m with
      | zero => rw [hgs.1] at hrun; cases hrun
      | succ qq =>
        rcases hgs with ⟨hf, _⟩ | ⟨_, g', es, _, hstep, _⟩
        · rw [hf] at hrun; cases hrun
        · rw [hstep w]; exact Kept.refl w
/-- A WAY THAT KEEPS THE OUTSIDE, TO THE DOOR OF WAIT: from there on well: so from here. -/
theorem St.kept (h : St P Sb ty Wg C n LW Rw Dr μ gs w t j X x ow a q) (hD : ∀ S M g w, Dr S M g w → g.status = .running) (hn : n + 1 < 2147483647) (h2 : x.tag ≠ 2) {i : Nat} (hg : gs[i]? = some g) (hrun : g.status = .running) {gs₁ : Array Goroutine} {w₁ : World} {ops : Array MemOp} (hs : CS P Sb gs w i gs₁ w₁ ops) : Kept w w₁ := by
  have hr := hs.run none
  cases i with
  | zero =>
    rw [h.ha] at hg; cases hg
    exact runT_kept h.ha (by simpa using h.mainK (by omega) h2 hrun) hr
  | succ i =>
    have hi : i < j := by have := (Array.getElem?_eq_some_iff.1 hg).1; rw [h.base.size] at this; omega
    exact runT_kept hg (by simpa using h.wkK (by omega) hi hg hrun) hr
theorem wn_A {Post : Value → World → Prop} {w0 : World} (hD : ∀ S M g w, Dr S M g w → g.status = .running) (hn : n + 1 < 2147483647)
    (hK : ∀ (μ' : Mu) (gs : Array Goroutine) (w : World) (u : Trace) (j : Nat) (X : Nat → Wk) (x : Mn) (ow : Nat → Ow) (a : Goroutine) (q : Nat), St P Sb ty Wg C n LW Rw Dr μ' gs w u j X x ow a q → x.tag = 2 → Kept w0 w → Wn P Sb Post gs w u) :
    ∀ (μ : Mu) (gs : Array Goroutine) (w : World) (t : Trace), InvA P Sb ty Wg C n LW Rw Dr μ gs w t → Kept w0 w → Wn P Sb Post gs w t := by
  intro μ
  induction μ using lt3_wf.induction with
  | _ μ ih =>
    intro gs w t h hk
    obtain ⟨j, X, x, ow, a, q, hst⟩ := h
    by_cases h2 : x.tag = 2
    · exact hK μ gs w t j X x ow a q hst h2 hk
    · refine Wn.mk (hst.runs hD) (hst.still hD) ⟨hst.awake hD, fun i g d hg hrun => .inr ?_⟩
      obtain ⟨gs₁, w₁, ops, μ', ⟨hcs, hd⟩, hlt, hI⟩ := (hst.at d).step hD (by omega) h2 hg hrun
      exact ⟨gs₁, w₁, ops, hcs, hd, ih μ' hlt _ _ _ hI (hk.trans (Kept.trans (b := w.at d) ⟨rfl, rfl, rfl⟩ ((hst.at d).kept hD hn h2 hg hrun hcs)))⟩
end
end Go.Proofs.Ytkbfcaaihellfaa

/- A small trace laid into a great one, its goroutines moved up, others' mute words strewn in, behind a prefix: no race, all handed over. No program in sight. -/
namespace Go.Proofs.Ytkbfcaaihellfaa
open Go.Conc Go.ConcN
set_option linter.unusedVariables false
set_option linter.unusedSectionVars false

/-- goroutine g of the small machine in the great one, where b others stand between -/
def sh (b g : Nat) : Nat := if g = 0 then 0 else g + b
theorem sh_zero (b : Nat) : sh b 0 = 0 := rfl
theorem sh_pos {b g : Nat} (h : 0 < g) : sh b g = g + b := if_neg (by omega)
theorem sh_inj {b g h : Nat} : sh b g = sh b h ↔ g = h := by
  unfold sh
  split <;> split <;> omega
theorem sh_ne {b g : Nat} (h : g ≠ 0) : sh b g ≠ 0 := by unfold sh; rw [if_neg h]; omega
def shAct (b : Nat) : MemAct → MemAct
  | .go k => .go (sh b k)
  | x => x
def shOp (b : Nat) (op : MemOp) : MemOp := { op with g := sh b op.g, act := shAct b op.act }
theorem shAct_touch (b : Nat) (x : MemAct) : (shAct b x).touch? = x.touch? := by cases x <;> rfl
theorem shAct_eq {b : Nat} {x y : MemAct} (h : shAct b x = y) (hy : ∀ k, y ≠ .go k) : x = y := by
  cases x with
  | go k => exact absurd h.symm (hy _)
  | _ => exact h

/-- WHAT IS KNOWN OF THE PREFIX: no race; whatever goroutine 0 does not know is an atomic touch of a shunned block; all is handed over; goroutine 0 hears. -/
structure PastS (Sb : Nat → Prop) (t : Trace) : Prop where
  clean : ∀ said, ¬ Race said t
  known : ∀ i a, touchAt t i = some a → a.loc.isMemory = true → Knows t 0 i ∨ (Sb (blk a.loc) ∧ a.kind = .atomic)
  over : t.HandedOver
  hears : Deaf t 0 = 0

structure Lk (b : Nat) (t₀ s T : Trace) (φ : Nat → Nat) : Prop where
  ext : ∃ U, T = t₀ ++ U
  img : ∀ (i : Nat) (op : MemOp), s[i]? = some op → T[φ i]? = some (shOp b op)
  lo : ∀ i, i < s.size → t₀.size ≤ φ i
  mono : ∀ i j, i < j → j < s.size → φ i < φ j
  gap : ∀ (k : Nat) (y : MemOp), T[k]? = some y → t₀.size ≤ k → (∃ i, i < s.size ∧ k = φ i) ∨ (0 < y.g ∧ y.g ≤ b ∧ (y.act = .mark .disable ∨ y.act = .mark .enable))
  dfi : ∀ g i, i < s.size → T.deaf (sh b g) (φ i) = s.deaf g i
  dfe : ∀ g, Deaf T (sh b g) = Deaf s g

section
variable {b : Nat} {t₀ s T : Trace} {φ : Nat → Nat}

theorem Lk.act (L : Lk b t₀ s T φ) {i : Nat} {x : MemAct} (h : s.act? i = some x) : T.act? (φ i) = some (shAct b x) := by
  obtain ⟨op, ho, rfl⟩ := Option.map_eq_some_iff.1 h
  simp [Trace.act?, L.img i op ho, shOp]
theorem Lk.g (L : Lk b t₀ s T φ) {i g : Nat} (h : s.g? i = some g) : T.g? (φ i) = some (sh b g) := by
  obtain ⟨op, ho, rfl⟩ := Option.map_eq_some_iff.1 h
  simp [Trace.g?, L.img i op ho, shOp]
theorem Lk.touch (L : Lk b t₀ s T φ) {i : Nat} (hi : i < s.size) : touchAt T (φ i) = touchAt s i := by
  have ho : s[i]? = some s[i] := Array.getElem?_eq_getElem hi
  rw [touchAt_of (L.img i _ ho), touchAt_of ho]
  exact shAct_touch b _
theorem Lk.refl_lt (L : Lk b t₀ s T φ) {i j : Nat} (hi : i < s.size) (h : φ i < φ j) : i < j := by
  rcases Nat.lt_trichotomy i j with x | rfl | x
  · exact x
  · omega
  · have := L.mono j i x hi; omega
theorem Lk.back (L : Lk b t₀ s T φ) {k : Nat} {y : MemOp} (h : T[k]? = some y) (hk : t₀.size ≤ k) (hy : y.act ≠ .mark .disable ∧ y.act ≠ .mark .enable) :
    ∃ i op, i < s.size ∧ k = φ i ∧ s[i]? = some op ∧ y = shOp b op := by
  rcases L.gap k y h hk with ⟨i, hi, rfl⟩ | ⟨_, _, e⟩
  · have ho : s[i]? = some s[i] := Array.getElem?_eq_getElem hi
    exact ⟨i, _, hi, rfl, ho, Option.some.inj (h.symm.trans (L.img i _ ho))⟩
  · exact (e.elim hy.1 hy.2).elim
theorem Lk.backAct (L : Lk b t₀ s T φ) {k : Nat} {x : MemAct} (h : T.act? k = some x) (hk : t₀.size ≤ k) (hx : x ≠ .mark .disable ∧ x ≠ .mark .enable) (hgo : ∀ n, x ≠ .go n) :
    ∃ i, i < s.size ∧ k = φ i ∧ s.act? i = some x := by
  obtain ⟨y, hy, rfl⟩ := Option.map_eq_some_iff.1 h
  obtain ⟨i, op, hi, rfl, ho, rfl⟩ := L.back hy hk hx
  exact ⟨i, hi, rfl, by rw [act?_of ho]; exact congrArg some (shAct_eq (b := b) (x := op.act) rfl hgo)⟩
theorem Lk.heard (L : Lk b t₀ s T φ) {i : Nat} (h : s.heard i) : T.heard (φ i) := by
  obtain ⟨g, hg, hd⟩ := h
  exact ⟨sh b g, L.g hg, by rw [L.dfi g i (lt_of_g? hg)]; exact hd⟩
theorem Lk.heard_back (L : Lk b t₀ s T φ) {i : Nat} (hi : i < s.size) (h : T.heard (φ i)) : s.heard i := by
  obtain ⟨g', hg', hd⟩ := h
  have hg : s.g? i = some s[i].g := by simp [Trace.g?, Array.getElem?_eq_getElem hi]
  obtain rfl : g' = sh b s[i].g := Option.some.inj (hg'.symm.trans (L.g hg))
  exact ⟨_, hg, by rw [← L.dfi _ i hi]; exact hd⟩
theorem Lk.notices (L : Lk b t₀ s T φ) {i j : Nat} (h : Notices s i j) : Notices T (φ i) (φ j) := by
  cases h with
  | @atomic a hij hi hj hb =>
    have hjs := lt_of_act? hj
    have his : i < s.size := Nat.lt_trans hij hjs
    refine .atomic (L.mono _ _ hij hjs) (L.act hi) (L.act hj) (fun k sync h1 h2 e => ?_)
    obtain ⟨k', hk', rfl, hact⟩ := L.backAct e (by have := L.lo i his; omega) ⟨by simp, by simp⟩ (by simp)
    exact hb k' sync (L.refl_lt his h1) (L.refl_lt hk' h2) hact
  | @spawn child hi hj hg => exact .spawn (child := sh b child) (L.act hi) (L.act hj) (L.g hg)
  | handOver hi hj => exact .handOver (L.act hi) (L.act hj)
  | room hi hj => exact .room (L.act hi) (L.act hj)
  | closed hi hj => exact .closed (L.act hi) (L.act hj)
  | @marked a hij hi hj hb =>
    have hjs := lt_of_act? hj
    have his : i < s.size := Nat.lt_trans hij hjs
    refine .marked (L.mono _ _ hij hjs) (hi.imp L.act L.act) (L.act hj) (fun k h1 h2 e => ?_)
    obtain ⟨k', hk', rfl, hact⟩ := L.backAct e (by have := L.lo i his; omega) ⟨by simp, by simp⟩ (by simp)
    exact hb k' (L.refl_lt his h1) (L.refl_lt hk' h2) hact
theorem Lk.hb (L : Lk b t₀ s T φ) {i j : Nat} (h : HappensBefore s i j) : HappensBefore T (φ i) (φ j) := by
  have edge : ∀ a c, (ProgramOrder s a c ∨ (Notices s a c ∧ s.heard a ∧ s.heard c)) → (ProgramOrder T (φ a) (φ c) ∨ (Notices T (φ a) (φ c) ∧ T.heard (φ a) ∧ T.heard (φ c))) := fun a c e => e.elim
    (fun ⟨hab, g, h1, h2⟩ => .inl ⟨L.mono a c hab (lt_of_g? h2), sh b g, L.g h1, L.g h2⟩)
    (fun ⟨n, x, y⟩ => .inr ⟨L.notices n, L.heard x, L.heard y⟩)
  induction h with
  | single e => exact .single (edge _ _ e)
  | tail _ e ih => exact .tail ih (edge _ _ e)

/-- whatever another does comes behind something of goroutine 0's -/
def Rooted (s : Trace) : Prop := ∀ i g, s.g? i = some g → g ≠ 0 → ∃ j, s.g? j = some 0 ∧ HappensBefore s j i

theorem Lk.place (L : Lk b t₀ s T φ) {U : Trace} (hU : T = t₀ ++ U) {k : Nat} {a : Touch} (ha : touchAt T k = some a) : (k < t₀.size ∧ touchAt t₀ k = some a) ∨ ∃ i, i < s.size ∧ k = φ i ∧ touchAt s i = some a := by
  subst hU
  rcases Nat.lt_or_ge k t₀.size with hk | hk
  · exact .inl ⟨hk, by rw [← touchAt_old (u := U) hk]; exact ha⟩
  · obtain ⟨y, hy, hya⟩ := touch_of ha
    obtain ⟨i, op, hi, rfl, _, _⟩ := L.back hy hk ⟨fun e => (by rw [e] at hya; cases hya), fun e => (by rw [e] at hya; cases hya)⟩
    exact .inr ⟨i, hi, rfl, by rw [← L.touch hi]; exact ha⟩
/-- THE GREAT TRACE IS WITHOUT A RACE AND ALL OF IT IS HANDED OVER. -/
theorem Lk.good {Sb : Nat → Prop} (hP : PastS Sb t₀) (L : Lk b t₀ s T φ) (clean : ∀ said, ¬ Race said s) (rooted : Rooted s)
    (shy : ∀ i a, touchAt s i = some a → SbL Sb a.loc → a.kind ≠ .plain) (over : s.HandedOver) : (∀ said, ¬ Race said T) ∧ T.HandedOver := by
  obtain ⟨U, hU⟩ := id L.ext
  have place := fun {k a} => L.place hU (k := k) (a := a)
  subst hU
  have cross : ∀ k i, Knows t₀ 0 k → i < s.size → HappensBefore (t₀ ++ U) k (φ i) := by
    intro k i hk hi
    have hgi : s.g? i = some s[i].g := by simp [Trace.g?, Array.getElem?_eq_getElem hi]
    by_cases e : s[i].g = 0
    · exact hk.hb_new (L.lo i hi) (L.img i _ (Array.getElem?_eq_getElem hi)) (by simp [shOp, e, sh])
    · obtain ⟨j, hj, hb⟩ := rooted i _ hgi e
      have hjs := lt_of_g? hj
      have hj0 : s[j].g = 0 := by simpa [Trace.g?, Array.getElem?_eq_getElem hjs] using hj
      exact (hk.hb_new (L.lo j hjs) (L.img j _ (Array.getElem?_eq_getElem hjs)) (by simp [shOp, hj0, sh])).trans (L.hb hb)
  refine ⟨fun said => ?_, fun k g hg hne hcn => ?_⟩
  · rintro ⟨x, y, hxy, ⟨a, c, ha, hb, hcf⟩, n1, n2⟩
    rcases place ha with ⟨hx, hax⟩ | ⟨i, hi, rfl, hai⟩
    · rcases place hb with ⟨hy, hby⟩ | ⟨j, hj, rfl, hbj⟩
      · exact hP.clean said ⟨x, y, hxy, ⟨a, c, hax, hby, hcf⟩, fun e => n1 (hb_app U e), fun e => n2 (hb_app U e)⟩
      · rcases hP.known x a hax hcf.2.1 with hk | ⟨hs, hka⟩
        · exact n1 (cross x j hk hj)
        · have hkb := shy j c hbj (hcf.1 ▸ ⟨hcf.2.1, hs⟩)
          obtain ⟨_, _, _, hkind⟩ := hcf
          rw [hka] at hkind
          rcases hkind with z | z | ⟨_, z, _⟩
          · cases z
          · exact absurd z hkb
          · cases z
    · rcases place hb with ⟨hy, _⟩ | ⟨j, hj, rfl, hbj⟩
      · have := L.lo i hi; omega
      · have hij := L.refl_lt hi hxy
        by_cases h1 : HappensBefore s i j
        · exact n1 (L.hb h1)
        · by_cases h2 : HappensBefore s j i
          · exact n2 (L.hb h2)
          · exact clean said ⟨i, j, hij, ⟨a, c, hai, hbj, hcf⟩, h1, h2⟩
  · obtain ⟨a, ha, hmem, hkind⟩ := id hcn
    rcases place ha with ⟨hk, _⟩ | ⟨i, hi, rfl, hai⟩
    · obtain ⟨j, hj, hb⟩ := hP.over k g (by rw [← g?_old (u := U) hk]; exact hg) hne ((counts_old hk).1 hcn)
      exact ⟨j, by rw [g?_old (lt_of_g? hj)]; exact hj, hb_app U hb⟩
    · have hgi : s.g? i = some s[i].g := by simp [Trace.g?, Array.getElem?_eq_getElem hi]
      obtain rfl : g = sh b s[i].g := Option.some.inj (hg.symm.trans (L.g hgi))
      have hne' : s[i].g ≠ 0 := fun e => hne (by rw [e]; rfl)
      obtain ⟨j, hj, hb⟩ := over i _ hgi hne' ⟨a, hai, hmem, hkind.imp id (L.heard_back hi)⟩
      exact ⟨φ j, L.g hj, L.hb hb⟩

theorem deafStep_sh {g : Nat} {op : MemOp} (d : Nat) : deafStep (sh b g) d (shOp b op) = deafStep g d op := by
  have e : (sh b op.g = sh b g) ↔ (op.g = g) := sh_inj
  obtain ⟨h, fn, pos, act⟩ := op
  simp only at e
  cases act with
  | mark m => cases m <;> simp [deafStep, shOp, shAct, e]
  | _ => simp [deafStep, shOp, shAct]
theorem Lk.init (h0 : Deaf t₀ 0 = 0) (hd : ∀ j, b < j → Deaf t₀ j = 0) : Lk b t₀ #[] t₀ id :=
  ⟨⟨#[], by simp⟩, fun i op h => by simp at h, fun i h => by simp at h, fun i j _ h => by simp at h, fun k y hy hk => absurd (lt_size_of_getElem? hy) (by omega), fun g i h => by simp at h,
   fun g => by
     by_cases e : g = 0
     · subst e; rw [sh_zero, h0]; rfl
     · rw [sh_pos (by omega), hd _ (by omega)]; rfl⟩
theorem Lk.lt (L : Lk b t₀ s T φ) {i : Nat} (hi : i < s.size) : φ i < T.size := lt_size_of_getElem? (L.img i _ (Array.getElem?_eq_getElem hi))
theorem Lk.le (L : Lk b t₀ s T φ) : t₀.size ≤ T.size := by obtain ⟨U, rfl⟩ := L.ext; simp
theorem Lk.both (L : Lk b t₀ s T φ) (op : MemOp) : Lk b t₀ (s ++ #[op]) (T ++ #[shOp b op]) (fun i => if i = s.size then T.size else φ i) := by
  have hs : (s ++ #[op]).size = s.size + 1 := by simp
  refine ⟨?_, fun i x hx => ?_, fun i hi => ?_, fun i j hij hj => ?_, fun k y hy hk => ?_, fun g i hi => ?_, fun g => ?_⟩
  · obtain ⟨U, rfl⟩ := L.ext
    exact ⟨U ++ #[shOp b op], by simp⟩
  · by_cases e : i = s.size
    · subst e
      have : op = x := by simpa using hx
      subst this
      simp
    · have hi : i < s.size := by have := lt_size_of_getElem? hx; omega
      rw [getElem?_append_old hi] at hx
      simp only [if_neg e]
      rw [getElem?_append_old (L.lt hi)]
      exact L.img i x hx
  · by_cases e : i = s.size
    · simp only [if_pos e]; exact L.le
    · simp only [if_neg e]; exact L.lo i (by omega)
  · have ei : i ≠ s.size := by omega
    simp only [if_neg ei]
    by_cases e : j = s.size
    · simp only [if_pos e]; exact L.lt (by omega)
    · simp only [if_neg e]; exact L.mono i j hij (by omega)
  · rcases getElem?_append_cases hy with ⟨_, hy'⟩ | ⟨hk', _⟩
    · rcases L.gap k y hy' hk with ⟨i, hi, rfl⟩ | h
      · exact .inl ⟨i, by omega, by simp [Nat.ne_of_lt hi]⟩
      · exact .inr h
    · have := lt_size_of_getElem? hy
      simp at this
      exact .inl ⟨s.size, by omega, by simp; omega⟩
  · by_cases e : i = s.size
    · subst e
      show (T ++ #[shOp b op]).deaf (sh b g) (if s.size = s.size then T.size else φ s.size) = (s ++ #[op]).deaf g s.size
      rw [if_pos rfl, deaf_old (Nat.le_refl _), deaf_old (Nat.le_refl _)]
      exact L.dfe g
    · have hi' : i < s.size := by omega
      simp only [if_neg e]
      rw [deaf_old (Nat.le_of_lt (L.lt hi')), deaf_old (Nat.le_of_lt hi')]
      exact L.dfi g i hi'
  · rw [Deaf_push, Deaf_push, L.dfe g, deafStep_sh]
theorem Lk.word (L : Lk b t₀ s T φ) {y : MemOp} (h0 : 0 < y.g) (hb : y.g ≤ b) (hm : y.act = .mark .disable ∨ y.act = .mark .enable) : Lk b t₀ s (T ++ #[y]) φ := by
  have hne : ∀ g, y.g ≠ sh b g := fun g e => by
    unfold sh at e
    split at e <;> omega
  refine ⟨?_, fun i x hx => ?_, L.lo, L.mono, fun k z hz hk => ?_, fun g i hi => ?_, fun g => ?_⟩
  · obtain ⟨U, rfl⟩ := L.ext
    exact ⟨U ++ #[y], by simp⟩
  · rw [getElem?_append_old (L.lt (lt_size_of_getElem? hx))]
    exact L.img i x hx
  · rcases getElem?_append_cases hz with ⟨_, hz'⟩ | ⟨_, hzu⟩
    · exact L.gap k z hz' hk
    · have : z = y := by simpa using hzu
      subst this
      exact .inr ⟨h0, hb, hm⟩
  · rw [deaf_old (Nat.le_of_lt (L.lt hi))]
    exact L.dfi g i hi
  · rw [Deaf_other T (g' := y.g) (hne g) #[y] (by simp)]
    exact L.dfe g
end

/-- The small trace and the great one hang together. -/
def Lkd (b : Nat) (t₀ s T : Trace) : Prop := ∃ φ, Lk b t₀ s T φ
section
variable {b : Nat} {t₀ s T : Trace}
theorem Lkd.boths : ∀ (l : List MemOp) {s T : Trace}, Lkd b t₀ s T → Lkd b t₀ (s ++ l.toArray) (T ++ (l.map (shOp b)).toArray)
  | [], _, _, h => by simpa using h
  | x :: l, s, T, ⟨φ, L⟩ => by
    have e1 : s ++ (x :: l).toArray = (s ++ #[x]) ++ l.toArray := by simp
    have e2 : T ++ ((x :: l).map (shOp b)).toArray = (T ++ #[shOp b x]) ++ (l.map (shOp b)).toArray := by simp
    rw [e1, e2]
    exact Lkd.boths l ⟨_, L.both x⟩
theorem Lkd.ops (h : Lkd b t₀ s T) (u : Array MemOp) : Lkd b t₀ (s ++ u) (T ++ u.map (shOp b)) := by
  obtain ⟨l⟩ := u
  simpa using h.boths l
theorem Lkd.words : ∀ (l : List MemOp) {T : Trace}, (∀ y ∈ l, 0 < y.g ∧ y.g ≤ b ∧ (y.act = .mark .disable ∨ y.act = .mark .enable)) → Lkd b t₀ s T → Lkd b t₀ s (T ++ l.toArray)
  | [], _, _, h => by simpa using h
  | x :: l, T, hl, ⟨φ, L⟩ => by
    have e2 : T ++ (x :: l).toArray = (T ++ #[x]) ++ l.toArray := by simp
    rw [e2]
    obtain ⟨a, c, d⟩ := hl x (by simp)
    exact Lkd.words l (fun y h => hl y (by simp [h])) ⟨φ, L.word a c d⟩
theorem sh_ofEvents (b g : Nat) (fn : FuncId) (pos : String) (es : Array Event) : (MemOp.ofEvents g fn pos es).map (shOp b) = MemOp.ofEvents (sh b g) fn pos es := by
  simp only [ofEvents_eq, Array.map_map]
  congr 1
  funext e
  have : shAct b (MemAct.ofEvent e) = MemAct.ofEvent e := by
    cases h : MemAct.ofEvent e with
    | go k => exact absurd h (ofEvent_ne_go e k)
    | _ => rfl
  simp [shOp, this]
/-- A SLIP OF A LEAVER's. -/
theorem Lkd.mutes (h : Lkd b t₀ s T) {γ : Nat} (h0 : 0 < γ) (hγ : γ ≤ b) (fn : FuncId) (pos : String) {es : Array Event} (hm : ∀ e ∈ es, e.mute = true) : Lkd b t₀ s (T ++ MemOp.ofEvents γ fn pos es) := by
  have := Lkd.words (b := b) (MemOp.ofEvents γ fn pos es).toList (fun y hy => by obtain ⟨e, he, rfl⟩ := Go.Conc.mem_ofEvents (Array.mem_toList_iff.1 hy); exact ⟨h0, hγ, act_mute (hm e he)⟩) h
  simpa using this
end
end Go.Proofs.Ytkbfcaaihellfaa

/- A crowd that ends well ends well beside leavers, over an old trace. No program in sight. -/
namespace Go.Proofs.Ytkbfcaaihellfaa
open Go.Conc Go.ConcN
open Go.ConcR (g_of_ofEvents)
set_option linter.unusedVariables false
set_option linter.unusedSectionVars false

theorem deaf_notin {g : Nat} : ∀ (u : List MemOp) (t : Trace), (∀ op ∈ u, op.g ≠ g) → Deaf (t ++ u.toArray) g = Deaf t g
  | [], t, _ => by simp
  | x :: l, t, h => by
    have e : t ++ (x :: l).toArray = (t ++ #[x]) ++ l.toArray := by simp
    rw [e, deaf_notin l _ fun op hop => h op (by simp [hop])]
    exact Deaf_other t (g' := x.g) (h x (by simp)) #[x] (by simp)
theorem Deaf_notin {g : Nat} {t u : Trace} (h : ∀ op ∈ u, op.g ≠ g) : Deaf (t ++ u) g = Deaf t g := by
  have := deaf_notin u.toList t (fun op hop => h op (Array.mem_toList_iff.1 hop))
  simpa using this

/-- what is held of the small trace: every other's doing comes behind something of goroutine 0's; whoever is there has done something. -/
structure RootI (Sb : Nat → Prop) (n : Nat) (s : Trace) : Prop where
  rooted : Rooted s
  born : ∀ g, 0 < g → g < n → ∃ j, s.g? j = some g
  lows : ∀ op ∈ s, op.g < n
  shy : ∀ i a, touchAt s i = some a → SbL Sb a.loc → a.kind ≠ .plain
theorem RootI.nil (Sb : Nat → Prop) : RootI Sb 1 #[] := ⟨fun i g h => by simp [Trace.g?] at h, fun g h1 h2 => by omega, by simp, fun i a h => by simp [touchAt, Trace.act?] at h⟩
section
variable {P : Program} {Sb : Nat → Prop} {Post : Value → World → Prop} {gs gs' gsB : Array Goroutine} {w w' : World} {s t t₀ T : Trace} {i b n : Nat} {ops u : Array MemOp} {q : Nat → Nat}

theorem shy_app (h : ∀ i a, touchAt s i = some a → SbL Sb a.loc → a.kind ≠ .plain) (hu : ∀ op ∈ u, ∀ a, op.act.touch? = some a → SbL Sb a.loc → a.kind ≠ .plain) : ∀ i a, touchAt (s ++ u) i = some a → SbL Sb a.loc → a.kind ≠ .plain := fun i a ha => by
  obtain ⟨op, ho, hx⟩ := touch_of ha
  rcases getElem?_append_cases ho with ⟨hi, ho'⟩ | ⟨_, hou⟩
  · exact h i a (by rw [touchAt_of ho']; exact hx)
  · exact hu op hou a hx
theorem Rooted.app (h : RootI Sb n s) (hu : ∀ op ∈ u, op.g < n) : Rooted (s ++ u) := by
  intro i g hg hne
  obtain ⟨op, ho, rfl⟩ := Option.map_eq_some_iff.1 hg
  rcases getElem?_append_cases ho with ⟨hi, ho'⟩ | ⟨hi, hou⟩
  · obtain ⟨j, hj, hb⟩ := h.rooted i op.g (by simp [Trace.g?, ho']) hne
    exact ⟨j, by rw [Go.Conc.g?_old (lt_of_g? hj)]; exact hj, hb_app u hb⟩
  · obtain ⟨j0, hj0⟩ := h.born op.g (by omega) (hu op hou)
    obtain ⟨j, hj, hb⟩ := h.rooted j0 op.g hj0 hne
    have hj0s := lt_of_g? hj0
    obtain ⟨x, hx, hxg⟩ := Option.map_eq_some_iff.1 hj0
    refine ⟨j, by rw [Go.Conc.g?_old (lt_of_g? hj)]; exact hj, (hb_app u hb).trans (hb_po (x := x) (y := op) (by omega) (by rw [getElem?_append_old hj0s]; exact hx) ho hxg)⟩
theorem RootI.app (h : RootI Sb n s) (hu : ∀ op ∈ u, op.g < n) (hs : ∀ op ∈ u, ∀ a, op.act.touch? = some a → SbL Sb a.loc → a.kind ≠ .plain) : RootI Sb n (s ++ u) := by
  refine ⟨Rooted.app h hu, fun g h1 h2 => ?_, fun op hop => (Array.mem_append.1 hop).elim (h.lows op) (hu op), shy_app h.shy hs⟩
  obtain ⟨j, hj⟩ := h.born g h1 h2
  exact ⟨j, by rw [Go.Conc.g?_old (lt_of_g? hj)]; exact hj⟩
theorem RootI.fork (h : RootI Sb n s) (hn : 0 < n) (h0 : Deaf s 0 = 0) {x y : MemOp} (hx : x.g = 0 ∧ x.act = .go n) (hy : y.g = n ∧ y.act = .start) : RootI Sb (n + 1) (s ++ #[x, y]) := by
  have h1 : RootI Sb n (s ++ #[x]) := h.app (fun op hop => by simp at hop; subst hop; rw [hx.1]; exact hn) (fun op hop a ha => by simp at hop; subst hop; rw [hx.2] at ha; cases ha)
  have e : s ++ #[x, y] = (s ++ #[x]) ++ #[y] := by apply Array.ext'; simp
  have hxp : (s ++ #[x, y])[s.size]? = some x := by rw [Array.getElem?_append_right (Nat.le_refl _)]; simp
  have hyp : (s ++ #[x, y])[s.size + 1]? = some y := by rw [Array.getElem?_append_right (by omega)]; simp
  have hk : Deaf s n = 0 := Deaf_absent fun i op hi e => by have := h.lows op (Array.mem_of_getElem? hi); omega
  have e0 : (s ++ #[x, y]).heard s.size := ⟨0, by simp [Trace.g?, hx.1], by rw [deaf_old (Nat.le_refl _)]; exact h0⟩
  have e1 : (s ++ #[x, y]).heard (s.size + 1) := ⟨n, by simp [Trace.g?, hy.1], by rw [deaf_succ hxp, deaf_old (Nat.le_refl _)]; simp only [deafStep, hx.2]; exact hk⟩
  have edge : HappensBefore (s ++ #[x, y]) s.size (s.size + 1) := .single (.inr ⟨.spawn (child := n) (by rw [act?_of hxp, hx.2]) (by rw [act?_of hyp, hy.2]) (by simp [Trace.g?, hy.1]), e0, e1⟩)
  refine ⟨fun i g hg hne => ?_, fun g h2 h3 => ?_, fun op hop => ?_, shy_app h.shy (fun op hop a ha => ?_)⟩
  · rcases Nat.lt_or_ge i (s.size + 1) with hi | hi
    · have hi' : i < (s ++ #[x]).size := by simpa using hi
      rw [e, Go.Conc.g?_old hi'] at hg
      obtain ⟨j, hj, hb⟩ := h1.rooted i g hg hne
      exact ⟨j, by rw [e, Go.Conc.g?_old (lt_of_g? hj)]; exact hj, by rw [e]; exact hb_app _ hb⟩
    · have := lt_of_g? hg
      simp at this
      obtain rfl : i = s.size + 1 := by omega
      exact ⟨s.size, by simp [Trace.g?, hx.1], edge⟩
  · by_cases e' : g = n
    · exact ⟨s.size + 1, by simp [Trace.g?, hy.1, e']⟩
    · obtain ⟨j, hj⟩ := h.born g h2 (by omega)
      exact ⟨j, by rw [Go.Conc.g?_old (lt_of_g? hj)]; exact hj⟩
  · rcases Array.mem_append.1 hop with hop | hop
    · have := h.lows op hop; omega
    · simp at hop
      rcases hop with rfl | rfl
      · rw [hx.1]; omega
      · rw [hy.1]; omega
  · simp at hop
    rcases hop with rfl | rfl
    · rw [hx.2] at ha; cases ha
    · rw [hy.2] at ha; cases ha

theorem shy_ops {fn : FuncId} {pos : String} {es : Array Event} {g : Nat} (h : ∀ e ∈ es, Shy Sb e) : ∀ op ∈ MemOp.ofEvents g fn pos es, ∀ a, op.act.touch? = some a → SbL Sb a.loc → a.kind ≠ .plain := fun op hop a ha => by
  obtain ⟨e, he, rfl⟩ := Go.Conc.mem_ofEvents hop
  exact h e he a ha
theorem CS.root (h : CS P Sb gs w i gs' w' ops) (hd : gs'.size ≠ gs.size → Deaf s 0 = 0) (hR : RootI Sb gs.size s) : RootI Sb gs'.size (s ++ ops) := by
  have lt : ∀ {j : Nat} {g : Goroutine}, gs[j]? = some g → j < gs.size := fun h => (Array.getElem?_eq_some_iff.1 h).1
  cases h with
  | go h1 h2 h3 =>
    have e : ∀ {x : Goroutine} {f : Goroutine → Goroutine}, ((gs.map f).setIfInBounds i x).size = gs.size := by simp
    rw [e]
    exact hR.app (fun op hop => by rw [g_of_ofEvents op hop]; exact lt h1) (shy_ops h3)
  | spawn h0 h1 h2 =>
    subst h0
    have e : ∀ {x c : Goroutine}, ((gs.setIfInBounds 0 x).push c).size = gs.size + 1 := by simp
    rw [e]
    exact hR.fork (lt h1) (hd (by rw [e]; omega)) ⟨rfl, rfl⟩ ⟨rfl, rfl⟩
  | waits h1 h2 h3 => simpa using hR
  | sendMeets h1 h2 h3 h4 h5 h6 =>
    have e : ∀ {x y : Goroutine} {j : Nat}, ((gs.setIfInBounds j y).setIfInBounds i x).size = gs.size := by simp
    rw [e]
    exact hR.app (fun op hop => by simp at hop; rcases hop with rfl | rfl | rfl | rfl <;> first | exact lt h1 | exact lt h5) (fun op hop a ha => by simp at hop; rcases hop with rfl | rfl | rfl | rfl <;> cases ha)
  | recvMeets h1 h2 h3 h4 h5 h6 =>
    have e : ∀ {x y : Goroutine} {j : Nat}, ((gs.setIfInBounds j y).setIfInBounds i x).size = gs.size := by simp
    rw [e]
    exact hR.app (fun op hop => by simp at hop; rcases hop with rfl | rfl | rfl | rfl <;> first | exact lt h1 | exact lt h5) (fun op hop a ha => by simp at hop; rcases hop with rfl | rfl | rfl | rfl <;> cases ha)
  | recvClosed h1 h2 h3 h4 =>
    have e : ∀ {x : Goroutine}, (gs.setIfInBounds i x).size = gs.size := by simp
    rw [e]
    exact hR.app (fun op hop => by simp at hop; subst hop; exact lt h1) (fun op hop a ha => by simp at hop; subst hop; cases ha)
theorem CS.mono {Sb' : Nat → Prop} (hs : ∀ b, Sb b → Sb' b) (h : CS P Sb' gs w i gs' w' ops) : CS P Sb gs w i gs' w' ops := by
  cases h with
  | go h1 h2 h3 => exact .go h1 h2 fun e he => (h3 e he).mono hs
  | spawn h0 h1 h2 => exact .spawn h0 h1 h2
  | waits h1 h2 h3 => exact .waits h1 h2 h3
  | sendMeets h1 h2 h3 h4 h5 h6 => exact .sendMeets h1 h2 h3 h4 h5 h6
  | recvMeets h1 h2 h3 h4 h5 h6 => exact .recvMeets h1 h2 h3 h4 h5 h6
  | recvClosed h1 h2 h3 h4 => exact .recvClosed h1 h2 h3 h4

/-- The great machine: goroutine 0, b leavers, the small machine's others. -/
structure Big (P : Program) (b : Nat) (gs gsB : Array Goroutine) (T : Trace) (q : Nat → Nat) : Prop where
  pos : 0 < gs.size
  size : gsB.size = gs.size + b
  img : ∀ k, gsB[sh b k]? = gs[k]?
  old : ∀ i g, 0 < i → i ≤ b → gsB[i]? = some g → QuitsD P (q i) (Deaf T i) g
theorem sh_lt {k : Nat} (h : k < gs.size) (hp : 0 < gs.size) : sh b k < gs.size + b := by unfold sh; split <;> omega
theorem img_set (hsz : gsB.size = gs.size + b) (h : ∀ k, gsB[sh b k]? = gs[k]?) (i : Nat) (x : Goroutine) (k : Nat) : (gsB.setIfInBounds (sh b i) x)[sh b k]? = (gs.setIfInBounds i x)[k]? := by
  by_cases e : i = k
  · subst e
    by_cases hi : i < gs.size
    · rw [Array.getElem?_setIfInBounds_self_of_lt hi, Array.getElem?_setIfInBounds_self_of_lt (by rw [hsz]; unfold sh; split <;> omega)]
    · have h1 : gs[i]? = none := Array.getElem?_eq_none (by omega)
      have h2 := (h i).trans h1
      have h3 : gsB.size ≤ sh b i := Array.getElem?_eq_none_iff.1 h2
      rw [Array.getElem?_eq_none (by simpa using h3), Array.getElem?_eq_none (by simp; omega)]
  · rw [Array.getElem?_setIfInBounds_ne e, Array.getElem?_setIfInBounds_ne (fun e' => e (sh_inj.1 e')), h]
theorem img_map (h : ∀ k, gsB[sh b k]? = gs[k]?) (f : Goroutine → Goroutine) (k : Nat) : (gsB.map f)[sh b k]? = (gs.map f)[k]? := by
  rw [Array.getElem?_map, Array.getElem?_map, h]
theorem old_idx (hsz : gsB.size = gs.size + b) {j : Nat} (hj : j < gsB.size) : (0 < j ∧ j ≤ b) ∨ ∃ k, j = sh b k := by
  by_cases h0 : j = 0
  · exact .inr ⟨0, by rw [h0]; rfl⟩
  · by_cases hb : j ≤ b
    · exact .inl ⟨by omega, hb⟩
    · exact .inr ⟨j - b, by unfold sh; rw [if_neg (by omega)]; omega⟩
theorem lv_offers {g : Goroutine} {k d : Nat} (h : QuitsD P k d g) (r : Nat) (send : Bool) : offersAt g r send = [] :=
  offersAt_of_not_blocked (fun e => by rcases h.status with x | x <;> rw [x] at e <;> cases e) r send
theorem not_sh {j : Nat} (h0 : 0 < j) (hb : j ≤ b) (k : Nat) : j ≠ sh b k := fun e => by unfold sh at e; split at e <;> omega
/-- what the machine sees of the others -/
theorem stand_big (hB : Big P b gs gsB T q) (i : Nat) {j : Nat} {g : Goroutine} (h : (gsB.setIfInBounds (sh b i) ph)[j]? = some g) : (0 < j ∧ j ≤ b ∧ ∃ k d, QuitsD P k d g) ∨ ∃ k, j = sh b k ∧ (gs.setIfInBounds i ph)[k]? = some g := by
  have hj : j < gsB.size := by simpa using (Array.getElem?_eq_some_iff.1 h).1
  rcases old_idx hB.size hj with ⟨h0, hb⟩ | ⟨k, rfl⟩
  · rw [Array.getElem?_setIfInBounds_ne (fun e => not_sh h0 hb i e.symm)] at h
    exact .inl ⟨h0, hb, _, _, hB.old j g h0 hb h⟩
  · rw [img_set hB.size hB.img] at h
    exact .inr ⟨k, rfl, h⟩
theorem partners_big_nil (hB : Big P b gs gsB T q) {i r : Nat} {send : Bool} (h : partners (gs.setIfInBounds i ph) r send = []) : partners (gsB.setIfInBounds (sh b i) ph) r send = [] :=
  partners_nil fun j g hg => by
    rcases stand_big hB i hg with ⟨_, _, _, _, hq⟩ | ⟨k, rfl, hk⟩
    · exact lv_offers hq r send
    · apply List.eq_nil_iff_forall_not_mem.2
      intro c hc
      have : (k, c) ∈ partners (gs.setIfInBounds i ph) r send := mem_partners.2 ⟨g, hk, hc⟩
      rw [h] at this; cases this
theorem partners_big_one (hB : Big P b gs gsB T q) {i r j : Nat} {send : Bool} {g : Goroutine} (h : partners (gs.setIfInBounds i ph) r send = [(j, 0)]) (hj : (gs.setIfInBounds i ph)[j]? = some g) (ho : offersAt g r send = [0]) :
    partners (gsB.setIfInBounds (sh b i) ph) r send = [(sh b j, 0)] := by
  rw [partners_one (j := sh b j) (g := g) (by rw [img_set hB.size hB.img]; exact hj) (fun j' g' hne hg' => ?_), ho]
  · rfl
  · rcases stand_big hB i hg' with ⟨_, _, _, _, hq⟩ | ⟨k, rfl, hk⟩
    · exact lv_offers hq r send
    · apply List.eq_nil_iff_forall_not_mem.2
      intro c hc
      have : (k, c) ∈ partners (gs.setIfInBounds i ph) r send := mem_partners.2 ⟨g', hk, hc⟩
      rw [h] at this
      simp at this
      exact hne (by rw [this.1])
theorem ways_big (hB : Big P b gs gsB T q) {i : Nat} {c : CommCase} (h : ways w (gs.setIfInBounds i ph) c = []) : ways w (gsB.setIfInBounds (sh b i) ph) c = [] := by
  unfold ways at h ⊢
  split at h
  · rename_i r hr
    split at h
    · rename_i cap buf closed _ _ _ v hh hs
      split at h
      · cases h
      · rename_i hcl
        rw [if_neg hcl]
        split at h
        · rename_i hp
          rw [partners_big_nil hB hp]
          exact h
        · rename_i ps hne
          rw [List.map_eq_nil_iff] at h
          exact absurd h (fun e => hne e)
    · rename_i cap buf closed _ _ _ hh hs
      split at h
      · cases h
      · rename_i hcl
        rw [if_neg hcl]
        split at h
        · rename_i hp
          rw [partners_big_nil hB hp]
          exact h
        · rename_i ps hne
          rw [List.map_eq_nil_iff] at h
          exact absurd h (fun e => hne e)
    · rfl
  · rfl
end
end Go.Proofs.Ytkbfcaaihellfaa

/- A crowd that ends well ends well beside leavers: the steps, the law. No program in sight. -/
namespace Go.Proofs.Ytkbfcaaihellfaa
open Go.Conc Go.ConcN
open Go.ConcR (g_of_ofEvents)
set_option linter.unusedVariables false
set_option linter.unusedSectionVars false

section
variable {P : Program} {Sb Sb' : Nat → Prop} {Post : Value → World → Prop} {gs gs' gsB : Array Goroutine} {w w' : World} {s t t₀ T : Trace} {i b n : Nat} {ops u : Array MemOp} {q : Nat → Nat}

theorem sh_eq0 (b i : Nat) : (sh b i == 0) = (i == 0) := by
  unfold sh
  by_cases h : i = 0
  · simp [h]
  · rw [if_neg h]
    have h1 : (i == 0) = false := by simp [h]
    have h2 : (i + b == 0) = false := by simp; omega
    rw [h1, h2]
theorem old_deaf (h : ∀ (i : Nat) (g : Goroutine), 0 < i → i ≤ b → gsB[i]? = some g → QuitsD P (q i) (Deaf T i) g) (hu : ∀ op ∈ u, ∀ j, 0 < j → j ≤ b → op.g ≠ j) (i : Nat) (g : Goroutine) (h0 : 0 < i) (hb : i ≤ b) (hi : gsB[i]? = some g) : QuitsD P (q i) (Deaf (T ++ u) i) g := by
  rw [Deaf_notin fun op hop => hu op hop i h0 hb]
  exact h i g h0 hb hi
theorem sh_not {k j : Nat} (h0 : 0 < j) (hb : j ≤ b) : sh b k ≠ j := fun e => not_sh h0 hb k e.symm
theorem ops_not : ∀ op ∈ u.map (shOp b), ∀ j, 0 < j → j ≤ b → op.g ≠ j := fun op hop j h0 hb => by
  obtain ⟨x, _, rfl⟩ := Array.mem_map.1 hop
  exact sh_not h0 hb
/-- one place of the small machine's is laid -/
theorem Big.set (h : Big P b gs gsB T q) (i : Nat) (x : Goroutine) : Big P b (gs.setIfInBounds i x) (gsB.setIfInBounds (sh b i) x) T q :=
  ⟨by simpa using h.pos, by simp [h.size], fun k => img_set h.size h.img i x k, fun j g h0 hb hj => by
    rw [Array.getElem?_setIfInBounds_ne (sh_not h0 hb)] at hj
    exact h.old j g h0 hb hj⟩
theorem Big.map (h : Big P b gs gsB T q) (f : Goroutine → Goroutine) (hf : ∀ g k d, QuitsD P k d g → f g = g) : Big P b (gs.map f) (gsB.map f) T q :=
  ⟨by simpa using h.pos, by simp [h.size], fun k => img_map h.img f k, fun j g h0 hb hj => by
    rw [Array.getElem?_map] at hj
    obtain ⟨y, hy, rfl⟩ := Option.map_eq_some_iff.1 hj
    have := h.old j y h0 hb hy
    rw [hf y _ _ this]
    exact this⟩
theorem Big.push (h : Big P b gs gsB T q) (x : Goroutine) : Big P b (gs.push x) (gsB.push x) T q := by
  refine ⟨by simp, by simp [h.size]; omega, fun k => ?_, fun j g h0 hb hj => ?_⟩
  · rw [Array.getElem?_push, Array.getElem?_push, h.img k]
    have hp := h.pos
    have : (sh b k = gsB.size) ↔ (k = gs.size) := by rw [h.size]; unfold sh; split <;> omega
    simp [this]
  · have hp := h.pos
    have : j ≠ gsB.size := by rw [h.size]; omega
    rw [Array.getElem?_push, if_neg this] at hj
    exact h.old j g h0 hb hj
theorem Big.hear (h : Big P b gs gsB T q) (u : Array MemOp) : Big P b gs gsB (T ++ u.map (shOp b)) q := ⟨h.pos, h.size, h.img, old_deaf h.old ops_not⟩
theorem quits_again {g : Goroutine} {k d : Nat} (h : QuitsD P k d g) (w : World) : g.again w = g := again_running w h.status
theorem CS.big (h : CS P Sb gs w i gs' w' ops) (hB : Big P b gs gsB T q) : ∃ gsB', CS P Sb gsB w (sh b i) gsB' w' (ops.map (shOp b)) ∧ Big P b gs' gsB' (T ++ ops.map (shOp b)) q := by
  cases h with
  | go h1 h2 h3 =>
    rename_i g g' es
    refine ⟨_, ?_, (((hB.map (woken P g g' w') fun _ _ _ h => woken_quitsD h).set i g').hear _)⟩
    rw [sh_ofEvents]
    exact .go (by rw [hB.img]; exact h1) (by rw [sh_eq0]; exact h2) h3
  | spawn h0 h1 h2 =>
    rename_i g g' child
    subst h0
    refine ⟨_, ?_, (((hB.set 0 g').push child).hear _)⟩
    have := CS.spawn (P := P) (Sb := Sb) (gs := gsB) (w := w) (i := 0) rfl (by rw [show (0 : Nat) = sh b 0 from rfl, hB.img]; exact h1) h2
    have hp := hB.pos
    have e : sh b gs.size = gsB.size := by rw [hB.size, sh_pos hp]
    simpa [shOp, shAct, e, sh_zero] using this
  | waits h1 h2 h3 =>
    refine ⟨_, ?_, ((hB.set i _).hear _)⟩
    have := CS.waits (P := P) (Sb := Sb) (gs := gsB) (w := w) (i := sh b i) (by rw [hB.img]; exact h1) (by rw [sh_eq0]; exact h2) fun cc hcc => ⟨(h3 cc hcc).1, ways_big hB (h3 cc hcc).2⟩
    simpa using this
  | @sendMeets g g₂ gj w₁ c cap sd r j v z zj blocking tm shape shj buf h1 h2 h3 h4 h5 h6 =>
    refine ⟨_, ?_, (((hB.set j _).set i _).hear _)⟩
    have hp := partners_big_one hB (j := j) (g := parked gj #[rcase c zj] shj) h6 (by rw [Array.getElem?_setIfInBounds_ne (Ne.symm h4)]; exact h5) (by rw [offersAt_parked_recv, if_pos rfl])
    have := CS.sendMeets (P := P) (Sb := Sb) (gs := gsB) (w := w) (i := sh b i) (by rw [hB.img]; exact h1) (by rw [sh_eq0]; exact h2) h3 (fun e => h4 (sh_inj.1 e)) (by rw [hB.img]; exact h5) hp
    simpa [shOp, shAct] using this
  | @recvMeets g g₂ gj w₁ c cap sd r j v z zj blocking closed tm shape shj h1 h2 h3 h4 h5 h6 =>
    refine ⟨_, ?_, (((hB.set j _).set i _).hear _)⟩
    have hp := partners_big_one hB (j := j) (g := parked gj #[scase c v zj] shj) h6 (by rw [Array.getElem?_setIfInBounds_ne (Ne.symm h4)]; exact h5) (by rw [offersAt_parked_send, if_pos rfl])
    have := CS.recvMeets (P := P) (Sb := Sb) (gs := gsB) (w := w) (i := sh b i) (by rw [hB.img]; exact h1) (by rw [sh_eq0]; exact h2) h3 (fun e => h4 (sh_inj.1 e)) (by rw [hB.img]; exact h5) hp
    simpa [shOp, shAct] using this
  | recvClosed h1 h2 h3 h4 =>
    refine ⟨_, ?_, ((hB.set i _).hear _)⟩
    have := CS.recvClosed (P := P) (Sb := Sb) (gs := gsB) (w := w) (i := sh b i) (by rw [hB.img]; exact h1) (by rw [sh_eq0]; exact h2) h3 (partners_big_nil hB h4)
    simpa [shOp, shAct] using this

theorem again_cases (o : Goroutine) (w : World) : o.again w = o ∨ (o.again w).status = .running := by
  unfold Goroutine.again
  split
  · dsimp only
    split
    · exact .inr rfl
    · exact .inl rfl
  · exact .inr rfl
  · exact .inr rfl
  · exact .inl rfl
theorem again_again (o : Goroutine) (w : World) : (o.again w).again w = o.again w := by
  rcases again_cases o w with h | h
  · rw [h, h]
  · exact again_running w (.inl h)
theorem map_again (gs : Array Goroutine) (w : World) : ((gs.map fun o => o.again w).map fun o => o.again w) = gs.map fun o => o.again w := by
  rw [Array.map_map]
  congr 1
  funext o
  exact again_again o w
theorem again_run {g : Goroutine} (h : g.status = .running) (w : World) : g.again w = g := again_running w (.inl h)

theorem woken_map (a a' : Goroutine) (w : World) (gs : Array Goroutine) : (gs.map (woken P a a' w)) = gs ∨ (gs.map (woken P a a' w)) = gs.map fun o => o.again w := by
  cases hc : (mayWake P a && a'.status != .blocked && a'.status != .waiting) with
  | false =>
    refine .inl ?_
    have : woken P a a' w = id := by funext o; simp [woken, hc]
    rw [this]; simp
  | true =>
    refine .inr ?_
    have : woken P a a' w = fun o => o.again w := by funext o; simp [woken, hc]
    rw [this]
/-- what each state is asked besides its steps -/
def Sk (P : Program) (Sb : Nat → Prop) (Post : Value → World → Prop) : Nat → Array Goroutine → World → Trace → Prop
  | 0 => fun _ _ _ => True
  | k + 1 => fun gs w t => WnK P Sb Post k (gs.map fun o => o.again w) w t
theorem wk_eq (k : Nat) : WnK P Sb Post k = Lf P Sb Post (Sk P Sb Post k) := by cases k <;> rfl
/-- THE NEXT STEP of the great machine: a leaver's slip, or the small machine's own. -/
theorem big_nx {Qs Qb : Array Goroutine → World → Trace → Prop} (hsub : ∀ b, Sb b → Sb' b) (hP : PastS Sb' t₀) (hN : Nx P Sb' Post Qs gs w s) (hB : Big P b gs gsB T q) (hR : RootI Sb' gs.size s) (hL : Lkd b t₀ s T)
    (hslip : ∀ (d : Nat) (gs₁ gsB₁ : Array Goroutine) (T₁ : Trace) (q₁ : Nat → Nat), (gs₁ = gs ∨ gs₁ = gs.map fun o => o.again w) → Big P b gs₁ gsB₁ T₁ q₁ → RootI Sb' gs₁.size s → Lkd b t₀ s T₁ → sumTo (b + 1) q₁ < sumTo (b + 1) q → Qb gsB₁ (w.at d) T₁)
    (hstep : ∀ (gs' : Array Goroutine) (w' : World) (s' : Trace) (gsB' : Array Goroutine) (T' : Trace), Qs gs' w' s' → Big P b gs' gsB' T' q → RootI Sb' gs'.size s' → Lkd b t₀ s' T' → Qb gsB' w' T') : Nx P Sb Post Qb gsB w T := by
  refine ⟨fun x hx => ?_, fun i x d' hx hr => ?_⟩
  · obtain ⟨j, hj⟩ := Array.mem_iff_getElem?.1 hx
    rcases old_idx hB.size (Array.getElem?_eq_some_iff.1 hj).1 with ⟨h0, hb⟩ | ⟨k, rfl⟩
    · exact awake_of ((hB.old j x h0 hb hj).status.elim .inl fun y => .inr (.inr y))
    · rw [hB.img] at hj
      exact hN.1 x (Array.mem_of_getElem? hj)
  · have hlt : i < gsB.size := (Array.getElem?_eq_some_iff.1 hx).1
    rcases old_idx hB.size hlt with ⟨h0, hb⟩ | ⟨k, rfl⟩
    · -- a leaver slips
      have hq := hB.old i x h0 hb hx
      cases hqi : q i with
      | zero => rw [hqi] at hq; rw [hq.1] at hr; cases hr
      | succ k => ?_
      rw [hqi] at hq
      rcases hq with ⟨hf, _⟩ | ⟨_, g', es, hm, hstp, hq'⟩
      · rw [hf] at hr; cases hr
      have hi0 : (i == 0) = false := by simp; omega
      have hsum : sumTo (b + 1) (upd q i k) + (k + 1) = sumTo (b + 1) q + k := by
        have := sumTo_upd q k id (show i < b + 1 by omega)
        simpa [hqi] using this
      refine .inr ⟨_, _, _, .go hx (by rw [hi0]; exact hstp _) (fun e he => .none (Go.Conc.touch_mute (hm e he))), fun e => absurd (by simp) e, ?_⟩
      have hw : Big P b (gs.map (woken P x g' (w.at d'))) ((gsB.map (woken P x g' (w.at d'))).setIfInBounds i g') (T ++ MemOp.ofEvents i x.frame.fn x.frame.place es) (upd q i k) := by
        have hB' := hB.map (woken P x g' (w.at d')) fun _ _ _ h => woken_quitsD h
        refine ⟨hB'.pos, by simpa using hB'.size, fun k' => ?_, fun j y h0' hb' hj => ?_⟩
        · rw [Array.getElem?_setIfInBounds_ne (not_sh h0 hb k')]
          exact hB'.img k'
        · by_cases e : i = j
          · subst e
            rw [Array.getElem?_setIfInBounds_self_of_lt (by simpa using hlt)] at hj
            cases hj
            rw [upd_same, Deaf_own]
            exact hq'
          · rw [Array.getElem?_setIfInBounds_ne e] at hj
            rw [upd_ne q k (Ne.symm e), Deaf_other T (g' := i) e _ g_of_ofEvents]
            exact hB'.old j y h0' hb' hj
      exact hslip d' _ _ _ _ (woken_map x g' (w.at d') gs) hw (by simpa using hR) (hL.mutes h0 hb _ _ hm) (by omega)
    · -- one of the small machine's
      rw [hB.img] at hx
      rcases hN.2 k x d' hx hr with ⟨rfl, v, w', es, hend, hsh, hp, hrc, hov, hq⟩ | ⟨gs', w', ops, hcs, hd, hQ⟩
      · refine .inl ⟨rfl, v, w', es, hend, fun e he => (hsh e he).mono hsub, hp, ?_⟩
        have hR' := hR.app (u := MemOp.ofEvents 0 x.frame.fn x.frame.place es) (fun op hop => by rw [g_of_ofEvents op hop]; exact hB.pos) (shy_ops hsh)
        obtain ⟨φ, L'⟩ := hL.ops (MemOp.ofEvents 0 x.frame.fn x.frame.place es)
        rw [sh_ofEvents, sh_zero] at L'
        obtain ⟨e1, e2⟩ := L'.good hP hrc hR'.rooted hR'.shy hov
        refine ⟨e1, e2, fun j y h0 hj => ?_⟩
        rcases old_idx hB.size (Array.getElem?_eq_some_iff.1 hj).1 with ⟨h0', hb⟩ | ⟨k, rfl⟩
        · refine ⟨q j, ?_⟩
          rw [Deaf_other T (g' := 0) (by omega) _ g_of_ofEvents]
          exact hB.old j y h0' hb hj
        · rw [L'.dfe k]
          rw [hB.img] at hj
          exact hq k y (by cases k with | zero => exact absurd h0 (by simp [sh]) | succ k => omega) hj
      · obtain ⟨gsB', hcs', hB'⟩ := hcs.big hB
        refine .inr ⟨gsB', w', _, hcs'.mono hsub, fun e => ?_, hstep gs' w' _ gsB' _ hQ hB' (hcs.root hd hR) (hL.ops ops)⟩
        obtain ⟨φ, L⟩ := hL
        have := L.dfe 0
        rw [sh_zero] at this
        rw [this]
        exact hd (fun e' => e (by rw [hB'.size, hB.size, e']))
/-- A CROWD THAT ENDS WELL ENDS WELL BESIDE LEAVERS, over an old trace; though it be woken k times. -/
theorem besideK (hsub : ∀ b, Sb b → Sb' b) (hP : PastS Sb' t₀) : ∀ (k M : Nat) (gs : Array Goroutine) (w : World) (s : Trace), WnK P Sb' Post (k + M) gs w s → ∀ (gsB : Array Goroutine) (T : Trace) (q : Nat → Nat), sumTo (b + 1) q ≤ M → Big P b gs gsB T q → RootI Sb' gs.size s → Lkd b t₀ s T → WnK P Sb Post k gsB w T := by
  intro k
  induction k with
  | zero => ?_
  | succ k ihk => ?_
  all_goals
    intro M
    induction M with
    | zero => ?_
    | succ M ih => ?_
  all_goals
    intro gs w s hW
    rw [wk_eq] at hW
    refine Lf.ind (Q := fun gs w s => ∀ (gsB : Array Goroutine) (T : Trace) (q : Nat → Nat), sumTo (b + 1) q ≤ _ → Big P b gs gsB T q → RootI Sb' gs.size s → Lkd b t₀ s T → WnK P Sb Post _ gsB w T) ?_ hW
    rintro gs w s ⟨⟨i₀, g₀, hi₀, hr₀⟩, hN⟩ hS gsB T q hM hB hR hL
    have hcur := Lf.mk (P := P) (Sb := Sb') (Post := Post) ⟨⟨i₀, g₀, hi₀, hr₀⟩, hN.mono fun _ _ _ h => h.1⟩ hS
    rw [← wk_eq] at hcur
    rw [wk_eq]
    refine Lf.mk ⟨⟨sh b i₀, g₀, by rw [hB.img]; exact hi₀, hr₀⟩, ?_⟩ ?_
  · rw [← wk_eq]
    exact big_nx hsub hP hN hB hR hL (fun d gs₁ gsB₁ T₁ q₁ h₁ hB₁ hR₁ hL₁ hlt => by omega) (fun gs' w' s' gsB' T' h hB' hR' hL' => h.2 gsB' T' q hM hB' hR' hL')
  · trivial
  · rw [← wk_eq]
    refine big_nx hsub hP hN hB hR hL (fun d gs₁ gsB₁ T₁ q₁ h₁ hB₁ hR₁ hL₁ hlt => ih gs₁ (w.at d) s ?_ gsB₁ T₁ q₁ (by omega) hB₁ hR₁ hL₁) (fun gs' w' s' gsB' T' h hB' hR' hL' => h.2 gsB' T' q hM hB' hR' hL')
    rcases h₁ with rfl | rfl
    · exact (WnK.down (k := 0 + M) hcur).at d
    · exact WnK.at (k := 0 + M) d hS
  · trivial
  · rw [← wk_eq]
    exact big_nx hsub hP hN hB hR hL (fun d gs₁ gsB₁ T₁ q₁ h₁ hB₁ hR₁ hL₁ hlt => by omega) (fun gs' w' s' gsB' T' h hB' hR' hL' => h.2 gsB' T' q hM hB' hR' hL')
  · rw [show k + 1 + 0 = (k + 0) + 1 by omega] at hS
    exact ihk 0 _ w s hS _ T q hM (hB.map (fun o => o.again w) fun _ _ _ h => quits_again h w) (by simpa using hR) hL
  · rw [← wk_eq]
    refine big_nx hsub hP hN hB hR hL (fun d gs₁ gsB₁ T₁ q₁ h₁ hB₁ hR₁ hL₁ hlt => ih gs₁ (w.at d) s ?_ gsB₁ T₁ q₁ (by omega) hB₁ hR₁ hL₁) (fun gs' w' s' gsB' T' h hB' hR' hL' => h.2 gsB' T' q hM hB' hR' hL')
    rcases h₁ with rfl | rfl
    · exact (WnK.down (k := k + 1 + M) hcur).at d
    · exact WnK.at (k := k + 1 + M) d hS
  · rw [show k + 1 + (M + 1) = (k + (M + 1)) + 1 by omega] at hS
    exact ihk (M + 1) _ w s hS _ T q hM (hB.map (fun o => o.again w) fun _ _ _ h => quits_again h w) (by simpa using hR) hL
theorem beside (hsub : ∀ b, Sb b → Sb' b) (hP : PastS Sb' t₀) (h : Wn P Sb' Post gs w s) (gsB : Array Goroutine) (T : Trace) (q : Nat → Nat) (hB : Big P b gs gsB T q) (hR : RootI Sb' gs.size s) (hL : Lkd b t₀ s T) : Wn P Sb Post gsB w T :=
  fun k => besideK hsub hP k (sumTo (b + 1) q) gs w s (h _) gsB T q (Nat.le_refl _) hB hR hL
end
end Go.Proofs.Ytkbfcaaihellfaa
