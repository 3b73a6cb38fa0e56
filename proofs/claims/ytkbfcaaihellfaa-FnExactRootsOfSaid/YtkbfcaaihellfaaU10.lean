/- Steps on the way to the law; each part says what it proves. -/
import Derived.Test.YtkbfcaaihellfaaU9

set_option linter.unusedSimpArgs false

/- The starter at the semaphore of Wait, and at its acquire, whatever it goes on to. No program in sight. -/
namespace Go.Proofs.Ytkbfcaaihellfaa
open Go.Conc Go.ConcN
open Go.ConcR (KK wgBlock WgAt stA smA rd wr mk Payload Aside2 DC0 Bk g_of_ofEvents again_blocked ofEvent_mk)
set_option linter.unusedVariables false
set_option linter.unusedSectionVars false

section
variable [Payload] {P : Program} {Sb : Nat → Prop} {Post : Value → World → Prop} {ty : TypeId} {Wg C n : Nat} {Own Rd : Nat → Loc → Prop} {Lw : Nat → Nat} {val : Nat → Value} {tag : CTag} {d0 V : Nat} {g : Goroutine} {w : World}

theorem worker_runs {gs : Array Goroutine} {t : Trace} {D : Nat → WD} {st sm : Int} (hcom : Com P ty Wg C n Own Rd Lw val n gs w t D d0) (hm : Go.ConcN.Mode n D .blk st sm) : ∃ (i : Nat) (x : Goroutine), gs[i]? = some x ∧ x.status = .running := by
  cases hm with
  | opn h1 _ _ => exact h1.elim
  | reg _ _ h3 =>
    obtain ⟨i, hi, h5⟩ := exists_counted h3
    obtain ⟨x, hx, hs⟩ := hcom.wk i hi
    exact ⟨i + 1, x, hx, hs.running_of (by omega)⟩
  | last L _ h2 h3 _ =>
    obtain ⟨x, hx, hs⟩ := hcom.wk L h2
    exact ⟨L + 1, x, hx, hs.running_of (by omega)⟩
  | fin h1 _ => exact h1.elim

theorem blk_w3 {D : Nat → WD} {st sm : Int} (h : Go.ConcN.Mode n D .blk st sm) : Go.ConcN.Mode n D .w3 st sm := by
  cases h with
  | opn h1 _ _ => exact h1.elim
  | reg h1 h2 h3 => exact .reg trivial h2 h3
  | last L h1 h2 h3 h4 => exact .last L trivial h2 h3 h4
  | fin h1 _ => exact h1.elim
theorem com_again {gs : Array Goroutine} {t : Trace} {D : Nat → WD} (h : Com P ty Wg C n Own Rd Lw val n gs w t D d0) : Com P ty Wg C n Own Rd Lw val n (gs.map fun o => o.again w) w t D d0 := by
  refine ⟨by simp [h.size], fun i hi => ?_, h.ct, h.norel, h.deaf0, h.deafW, h.rel, h.has, h.pay⟩
  obtain ⟨g', hg', hw⟩ := h.wk i hi
  exact ⟨g', by rw [Array.getElem?_map, hg']; simp [again_running w hw.status], hw⟩
theorem tk_w3 (A : ApS Sb n (ShN Wg) Own Rd) (G : Geo Wg C Lw) (hn : n < 2147483648) (hs : g.status = .running) (hoff : g.offers = none)
    (hblk : ∀ w₁, RC ty Wg C w w₁ → (∃ st, WgAt ty Wg w₁ st 0) → stepG P true g w₁ = .go { g with status := .blocked } w₁ #[])
    (htake : ∀ w₁, RC ty Wg C w w₁ → WgAt ty Wg w₁ 0 1 → ∃ g', stepG P true g w₁ = .go g' (w₁.setCell (smA Wg) (.int .u32 0)) (semEvents (smA Wg)) ∧ TK P Sb Post ty Wg C n Own Rd Lw val .w4 1 0 () g' (w₁.setCell (smA Wg) (.int .u32 0))) :
    TK P Sb Post ty Wg C n Own Rd Lw val .w3 1 V () g w := by
  have key : ∀ (k : Nat) (μ : Nat × Nat) (b : Bool) (w₁ : World), RC ty Wg C w w₁ → ∀ (gs : Array Goroutine) (t : Trace) (D : Nat → WD) (st sm : Int), μ = (Ssum n D, 2 * Fsum n D + (if b then 0 else 1)) → gs[0]? = some (if b then { g with status := .blocked } else g) →
      Com P ty Wg C n Own Rd Lw val n gs w₁ t D 1 → WgAt ty Wg w₁ st sm → Go.ConcN.Mode n D (if b then .blk else .w3) st sm → RelAll Wg n t D → WnK P Sb Post k gs w₁ t := by
    intro k
    induction k with
    | zero => ?_
    | succ k ihk => ?_
    all_goals
      intro μ
      refine (Prod.lex Nat.lt_wfRel Nat.lt_wfRel).wf.induction (C := fun μ => ∀ (b : Bool) (w₁ : World), RC ty Wg C w w₁ → ∀ (gs : Array Goroutine) (t : Trace) (D : Nat → WD) (st sm : Int), μ = (Ssum n D, 2 * Fsum n D + (if b then 0 else 1)) → gs[0]? = some (if b then { g with status := .blocked } else g) →
        Com P ty Wg C n Own Rd Lw val n gs w₁ t D 1 → WgAt ty Wg w₁ st sm → Go.ConcN.Mode n D (if b then .blk else .w3) st sm → RelAll Wg n t D → WnK P Sb Post _ gs w₁ t) μ ?_
      intro μ ih b w₁ r gs t D st sm hμ h0 hcom hwg hmode hrs
      have haw : awake (if b then { g with status := .blocked } else g : Goroutine) := by
        intro tm
        cases b
        · simp [hs]
        · simp
      have hsome : ∃ (i : Nat) (x : Goroutine), gs[i]? = some x ∧ x.status = .running := by
        cases b with
        | false => exact ⟨0, g, by simpa using h0, hs⟩
        | true => exact worker_runs hcom (by simpa using hmode)
      rw [wk_eq]
      refine Lf.mk ⟨hsome, awake_com hcom h0 haw, fun i x d hx hr => .inr ?_⟩ ?_
    rotate_left
    · trivial
    rotate_left
    · -- woken for nothing
      refine ihk _ false w₁ r _ t D st sm rfl ?_ (com_again hcom) hwg ?_ hrs
      · rw [Array.getElem?_map, h0]
        cases b with
        | false => simp [again_run hs]
        | true => simp [again_blocked hs hoff]
      · cases b with
        | false => simpa using hmode
        | true => simpa using blk_w3 (by simpa using hmode)
    all_goals
      have r' : RC ty Wg C w (w₁.at d) := r.trans (.at w₁ d)
      have hcom' := hcom.at d
      have hwg' : WgAt ty Wg (w₁.at d) st sm := hwg
      rw [← wk_eq]
      match i, hx with
      | 0, hx =>
        cases b with
        | true =>
          rw [h0] at hx
          simp only [if_true, Option.some.injEq] at hx
          subst hx
          cases hr
        | false =>
          obtain rfl : x = g := by rw [h0] at hx; simpa using hx.symm
          have hlt : 0 < gs.size := (Array.getElem?_eq_some_iff.1 h0).1
          have blocked : (∃ st, WgAt ty Wg (w₁.at d) st 0) → Go.ConcN.Mode n D .blk st sm → ∃ gs' w' ops, CS P Sb gs (w₁.at d) 0 gs' w' ops ∧ (gs'.size ≠ gs.size → Deaf t 0 = 0) ∧ WnK P Sb Post _ gs' w' (t ++ ops) := fun hw hm => by
            have hgo := hblk _ r' hw
            refine ⟨_, _, _, .go (i := 0) hx (by simpa using hgo) (by simp), fun e => absurd (by simp) e, ih _ ?_ true _ r' _ _ D st sm rfl (by simp [hlt]) ?_ hwg' (by simpa using hm) (relAll_main hrs)⟩
            · subst hμ
              exact Prod.Lex.right _ (Nat.lt_succ_self (2 * Fsum n D))
            · have := com_book A G (a := x) (a' := { x with status := .blocked }) (fn := x.frame.fn) (pos := x.frame.place) (es := #[]) hcom' (.refl Wg _) hwg' (by simp)
              simpa [deafBehind] using this
          simp only [Bool.false_eq_true, if_false] at hmode
          cases hmode with
          | opn h1 _ _ => exact h1.elim
          | reg h1 h2 h3 => exact blocked ⟨_, hwg'⟩ (.reg trivial h2 h3)
          | last L h1 h2 h3 h4 => exact blocked ⟨_, hwg'⟩ (.last L trivial h2 h3 h4)
          | sema h2 =>
            obtain ⟨g', hgo, hT⟩ := htake _ r' hwg'
            have hw2 := hwg'.setSm 0
            have hc := com_book A G (a := x) (a' := g') (fn := x.frame.fn) (pos := x.frame.place) (es := semEvents (smA Wg)) hcom' (aside_setCell (w₁.at d) (smA Wg) (.int .u32 0)) hw2 bk_sem
            have hv0 : Vc n D ≤ 0 := by
              refine Nat.le_of_eq ?_
              have : ∀ j, j ≤ n → Vc j D = 0 := by
                intro j
                induction j with
                | zero => intro _; rfl
                | succ j ihj =>
                  intro hj
                  have e1 := ihj (by omega)
                  have e2 := h2 j (by omega)
                  simp only [Vc, sumTo] at e1 ⊢
                  rw [e1]
                  simp [cnt, e2]
              exact this n (Nat.le_refl _)
            exact ⟨_, _, _, .go (i := 0) hx (by simpa using hgo) (fun e he => shy_bk (bk_sem e he)), fun e => absurd (by simp) e, hT _ (.refl _) _ _ D 0 0 (by simp [hlt]) (by simpa [deafBehind, semEvents] using hc) hw2 (.fin trivial h2) hv0 (relAll_main hrs) _⟩
          | fin h1 _ => exact h1.elim
      | i + 1, hx =>
        have hi : i < n := by have := (Array.getElem?_eq_some_iff.1 hx).1; rw [hcom.size] at this; omega
        obtain ⟨g', w', es, y, st', sm', hgo, hsy, hrs2, hc2, hw2, hrc, hm2, hlt⟩ := worker_out A G hn hcom' hwg' hmode (by cases b <;> rfl) hrs hi hx hr
        obtain ⟨hv, hlt⟩ := vc_le hi hlt
        have hmain : ((gs.map (woken P x g' w')).setIfInBounds (i + 1) g')[0]? = some (woken P x g' w' (if b then { g with status := .blocked } else g)) := by
          rw [Array.getElem?_setIfInBounds_ne (by omega), Array.getElem?_map, h0]; rfl
        have dec : ∀ b' : Bool, Prod.Lex (fun a b : Nat => a < b) (fun a b : Nat => a < b) (Ssum n (upd D i y), 2 * Fsum n (upd D i y) + (if b' then 0 else 1)) (Ssum n D, 2 * Fsum n D + (if b then 0 else 1)) := fun b' => by
          rcases hlt with hlt | ⟨he, hlt⟩
          · exact Prod.Lex.left _ _ hlt
          · rw [he]
            exact Prod.Lex.right _ (by cases b' <;> cases b <;> simp <;> omega)
        refine ⟨_, w', _, .go hx (by simpa using hgo) hsy, fun e => absurd (by simp) e, ?_⟩
        cases b with
        | false =>
          refine ih _ (by rw [hμ]; exact dec false) false w' (r'.trans hrc) _ _ _ _ _ rfl ?_ hc2 hw2 (hm2 .w3 (.inl rfl) (fun _ _ => by simp)) hrs2
          rw [hmain]
          simp [woken_run hs]
        | true =>
          by_cases hw : (mayWake P x && g'.status != .blocked && g'.status != .waiting) = true
          · refine ih _ (by rw [hμ]; exact dec false) false w' (r'.trans hrc) _ _ _ _ _ rfl ?_ hc2 hw2 (hm2 .w3 (.inr ⟨rfl, rfl⟩) (fun _ _ => by simp)) hrs2
            rw [hmain]
            simp only [if_true, woken, hw]
            simp [again_blocked hs hoff]
          · refine ih _ (by rw [hμ]; exact dec true) true w' (r'.trans hrc) _ _ _ _ _ rfl ?_ hc2 hw2 (hm2 .blk (.inl rfl) (fun h1 h2 => absurd (by simp [h1, h2]) hw)) hrs2
            rw [hmain]
            simp only [if_true, woken, hw]
            simp
  exact fun w₁ r gs t D st sm h0 hcom hwg hmode hV hrs k => key k _ false w₁ r gs t D st sm rfl (by simpa using h0) hcom hwg (by simpa using hmode) hrs
end
end Go.Proofs.Ytkbfcaaihellfaa

/- The starter at Wait's acquire: from there on it is beside leavers alone. No program in sight. -/
namespace Go.Proofs.Ytkbfcaaihellfaa
open Go.Conc Go.ConcN
open Go.ConcR (KK wgBlock WgAt stA smA rd wr mk Payload Aside2 DC0 Bk g_of_ofEvents again_blocked ofEvent_mk bk_of_mute)
set_option linter.unusedVariables false
set_option linter.unusedSectionVars false

section
variable [Payload] {P : Program} {Sb : Nat → Prop} {Post : Value → World → Prop} {ty : TypeId} {Wg C n : Nat} {Own Rd : Nat → Loc → Prop} {Lw : Nat → Nat} {val : Nat → Value} {tag : CTag} {d0 V : Nat} {g : Goroutine} {w : World}

/-- WHAT IS HELD OF THE TRACE behind the acquire: whatever the starter does not know is an atomic touch of the group's block. -/
theorem past_acq {t : Trace} (hct : CT (ShN Wg) Own Rd t n) (hnr : NoRelease (stA Wg) t) (hd : Deaf t 0 = 0) {q : Nat} (hq : t.act? q = some (.mark (.acquire (stA Wg)))) (hg : t.g? q = some 0) (hh : t.heard q) (hr : ∀ i, i < n → ∃ r, RelS Wg t (i + 1) r ∧ r < q) : PastS (Sw Sb Wg) t := by
  refine ⟨hct.nr, fun i a ha hm => ?_, handedOver_all (fun i g hgi hne => ?_) hnr hq hg hh, hd⟩
  · obtain ⟨op, ho, hx⟩ := touch_of ha
    by_cases e : op.g = 0
    · have := knows_own ho
      rw [e] at this
      exact .inl this
    · have := hct.gs i op ho
      obtain ⟨r, hrs, hlt⟩ := hr (op.g - 1) (by omega)
      rw [show op.g - 1 + 1 = op.g by omega] at hrs
      have hgi : t.g? i = some op.g := by simp [Trace.g?, ho]
      rcases Nat.lt_or_ge r i with hri | hri
      · refine .inr ⟨.inr (hrs.aft i hri hgi a ha), ?_⟩
        have hc := hrs.by_.after i hri hgi
        by_cases hk : a.kind = .atomic
        · exact hk
        · exact absurd ⟨a, ha, hm, .inl hk⟩ hc
      · have edge : HappensBefore t r q := .single (.inr ⟨.marked hlt (.inr hrs.by_.act) hq (fun k _ _ => hnr k), hrs.by_.heard, hh⟩)
        obtain ⟨z, hz, hzg⟩ := Option.map_eq_some_iff.1 hg
        refine .inl ⟨q, z, hz, hzg, .inr ?_⟩
        rcases Nat.lt_or_ge i r with hlt2 | hge
        · exact .trans (.single (.inl ⟨hlt2, op.g, hgi, hrs.by_.g⟩)) edge
        · obtain rfl : i = r := by omega
          exact edge
  · obtain ⟨op, ho, rfl⟩ := Option.map_eq_some_iff.1 hgi
    have := hct.gs i op ho
    obtain ⟨r, hrs, hlt⟩ := hr (op.g - 1) (by omega)
    rw [show op.g - 1 + 1 = op.g by omega] at hrs
    exact ⟨r, hrs.by_, hlt⟩

theorem tk_acq (A : ApS Sb n (ShN Wg) Own Rd) (G : Geo Wg C Lw) (hn : n < 2147483648) (hs : g.status = .running)
    (h : ∀ w₁, RC ty Wg C w w₁ → ∃ g', stepG P true g w₁ = .go g' w₁ #[mk (.acquire (stA Wg))] ∧ LA P (Sw Sb Wg) Post () g' w₁) : TK P Sb Post ty Wg C n Own Rd Lw val .acq 0 V () g w := by
  refine tk_go A G hn rfl (by simp) hs fun w₁ gs t D st sm r h0 hcom hwg hmode hV hrs => ?_
  obtain ⟨hq, rfl, rfl⟩ := hmode.fin_inv trivial
  obtain ⟨g', hgo, hL⟩ := h w₁ r
  have hlt : 0 < gs.size := (Array.getElem?_eq_some_iff.1 h0).1
  have hc := hcom.step0 A.ap (a := g) (a' := g') (fn := g.frame.fn) (pos := g.frame.place) (es := #[mk (.acquire (stA Wg))]) (fun i _ => RW.refl w₁) (ok0_none (by intro e he; simp at he; subst he; rfl)) (by intro e he; simp at he; subst he; simp [mk]) hcom.pay
  have e1 : MemOp.ofEvents 0 g.frame.fn g.frame.place #[mk (.acquire (stA Wg))] = #[{ g := 0, fn := g.frame.fn, pos := g.frame.place, act := .mark (.acquire (stA Wg)) }] := by rw [ofEvents_eq]; simp [ofEvent_mk]
  have hy : (t ++ #[({ g := 0, fn := g.frame.fn, pos := g.frame.place, act := .mark (.acquire (stA Wg)) } : MemOp)])[t.size]? = some { g := 0, fn := g.frame.fn, pos := g.frame.place, act := .mark (.acquire (stA Wg)) } := by simp
  refine ⟨g', w₁, _, hgo, by intro e he; simp at he; subst he; exact .none rfl, ?_⟩
  refine beside0 (Sb' := Sw Sb Wg) (q := fun i => (D (i - 1)).fuel) (fun _ => .inl) (past_acq hc.ct hc.norel (by rw [hc.deaf0]; rfl) (q := t.size) (by rw [e1, act?_of hy]) (by rw [e1]; simp [Trace.g?]) (by rw [e1]; exact ⟨0, by simp [Trace.g?], by rw [deaf_old (Nat.le_refl _)]; exact hcom.deaf0⟩) fun i hi => ?_) (by simp [hlt]) ⟨fun i x hi hx => ?_, fun j hj => ?_⟩ hL
  · obtain ⟨r, hr⟩ := hrs i hi (by rw [hq i hi]; omega)
    exact ⟨r, hr.appOther g_of_ofEvents (by omega), lt_of_act? hr.by_.act⟩
  · obtain ⟨k, rfl⟩ : ∃ k, i = k + 1 := ⟨i - 1, by omega⟩
    have hk : k < n := by have := (Array.getElem?_eq_some_iff.1 hx).1; rw [hc.size] at this; omega
    obtain ⟨y, hy, hw⟩ := hc.wk k hk
    rw [hx] at hy
    cases hy
    rw [hc.deafW k hk]
    exact hw.quits (hq k hk)
  · rw [hc.size] at hj
    exact Deaf_absent fun i op hi e => by have := hc.ct.gs i op hi; omega
end
end Go.Proofs.Ytkbfcaaihellfaa
