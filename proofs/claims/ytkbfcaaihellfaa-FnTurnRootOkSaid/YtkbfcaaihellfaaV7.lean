/- Steps on the way to the law; each part says what it proves. -/
import Derived.Test.YtkbfcaaihellfaaV6
import Derived.Test.YtkbfcaaihellfaaV1
import Derived.Test.YtkbfcaaihellfaaRows
import Derived.WalkKit
import Derived.ProofKit
import Derived.Test.YtkbfcaaihellfaaProg

set_option linter.unusedSimpArgs false

/- Workers with lanes and their starter: a go statement. No program in sight. -/
namespace Go.Proofs.Ytkbfcaaihellfaa
open Go.Conc Go.ConcN
open Go.ConcR (KK wgBlock WgAt stA smA rd wr mk Payload Aside2 DC0 Bk g_of_ofEvents)
set_option linter.unusedVariables false
set_option linter.unusedSectionVars false

open Classical in
noncomputable def owGo (ow : Nat → Ow) (c : Nat) (S' : Nat → Prop) (b : Nat) : Ow := if b = c then .ln else if S' b ∧ ow b = .mn then .st else ow b
theorem owGo_c (ow : Nat → Ow) (c : Nat) (S' : Nat → Prop) : owGo ow c S' c = .ln := if_pos rfl
theorem owGo_st {ow : Nat → Ow} {c b : Nat} {S' : Nat → Prop} (h : b ≠ c) (hs : S' b) (hm : ow b = .mn) : owGo ow c S' b = .st := by unfold owGo; rw [if_neg h, if_pos ⟨hs, hm⟩]
theorem owGo_old {ow : Nat → Ow} {c b : Nat} {S' : Nat → Prop} (h : b ≠ c) (hs : ¬ (S' b ∧ ow b = .mn)) : owGo ow c S' b = ow b := by unfold owGo; rw [if_neg h, if_neg hs]

section
variable [Payload] {P : Program} {ty : TypeId} {Wg C n LW : Nat} {Rw : List Int → Nat → Obj → Value → Prop} {Dr : (Nat → Prop) → (Nat → Prop) → Goroutine → World → Prop}
variable {μ : Mu} {gs gs' : Array Goroutine} {w w' : World} {sl : Option (Nat × Nat)} {t : Trace} {j q : Nat} {X : Nat → Wk} {x : Mn} {ow : Nat → Ow} {a g g' : Goroutine}

theorem OwnG.go {M0 S0 : Nat → Prop} (O : OwnG Wg C LW j w X M0 S0 ow) {c : Nat} {S' : Nat → Prop} (hS : ∀ b, S' b → M0 b ∨ S0 b) (hMc : M0 c) (hcS : ¬ S' c) (hCS : ¬ S' C) {y : Wk} (hyc : y.c = c) (hyS : y.S = S') (hyM : ∀ b, ¬ y.M b) :
    OwnG Wg C LW (j + 1) w (upd X j y) (fun b => M0 b ∧ ¬ S' b ∧ b ≠ c) (fun b => S0 b ∨ S' b) (owGo ow c S') := by
  have oc := (O.m0 c).1 hMc
  have old : ∀ {b}, ow b ≠ .mn → owGo ow c S' b = ow b := fun {b} h => owGo_old (fun e => h (by rw [e, oc])) (fun e => h e.2)
  refine ⟨fun i hi b => ?_, fun b => ?_, fun b h => ?_, fun i hi b h => ?_, fun i hi => ?_, fun i i' h1 h2 h3 => ?_, ?_, fun b h => ?_, ?_, fun b => ?_, fun b h1 h2 => ?_, fun i b h => ?_, fun i hi => ?_⟩
  · by_cases e : i = j
    · subst e; rw [upd_same]
      refine ⟨fun h => absurd h (hyM b), fun h => ?_⟩
      by_cases hm : ow b = .mn
      · by_cases hb : b = c
        · rw [hb, owGo_c] at h; cases h
        · by_cases hs : S' b
          · rw [owGo_st hb hs hm] at h; cases h
          · rw [owGo_old hb (fun e => hs e.1), hm] at h; cases h
      · rw [old hm] at h; have := O.wk _ _ h; omega
    · rw [upd_ne X y e, O.m i (by omega)]
      by_cases hm : ow b = .mn
      · rw [hm]
        refine ⟨fun h => (by cases h), fun h => ?_⟩
        by_cases hb : b = c
        · rw [hb, owGo_c] at h; cases h
        · by_cases hs : S' b
          · rw [owGo_st hb hs hm] at h; cases h
          · rw [owGo_old hb (fun e => hs e.1), hm] at h; cases h
      · rw [old hm]
  · rw [O.m0]
    by_cases hm : ow b = .mn
    · by_cases hb : b = c
      · rw [hb, owGo_c]; exact ⟨fun h => absurd rfl h.2.2, fun h => (by cases h)⟩
      · by_cases hs : S' b
        · rw [owGo_st hb hs hm]; exact ⟨fun h => absurd hs h.2.1, fun h => (by cases h)⟩
        · rw [owGo_old hb (fun e => hs e.1)]; exact ⟨fun h => h.1, fun h => ⟨h, hs, hb⟩⟩
    · rw [old hm]; exact ⟨fun h => h.1, fun h => absurd h hm⟩
  · by_cases hm : ow b = .mn
    · have hs : S' b := h.elim (fun h => by rw [O.s0 b h] at hm; cases hm) id
      exact owGo_st (fun e => hcS (by rw [← e]; exact hs)) hs hm
    · rw [old hm]
      rcases h with h | h
      · exact O.s0 b h
      · rcases hS b h with h | h
        · exact absurd ((O.m0 b).1 h) hm
        · exact O.s0 b h
  · by_cases e : i = j
    · subst e; rw [upd_same, hyS] at h
      refine ⟨?_, fun e => hCS (by rw [← e]; exact h)⟩
      by_cases hm : ow b = .mn
      · exact owGo_st (fun e => hcS (by rw [← e]; exact h)) h hm
      · rw [old hm]
        rcases hS b h with h | h
        · exact absurd ((O.m0 b).1 h) hm
        · exact O.s0 b h
    · rw [upd_ne X y e] at h
      have := O.s i (by omega) b h
      rw [old (by rw [this.1]; exact Ow.noConfusion)]; exact this
  · by_cases e : i = j
    · subst e; rw [upd_same, hyc]; exact owGo_c _ _ _
    · rw [upd_ne X y e, old (by rw [O.c i (by omega)]; exact Ow.noConfusion)]; exact O.c i (by omega)
  · have hne : ∀ i, i < j → (X i).c ≠ c := fun i hi e => by have := O.c i hi; rw [e, oc] at this; cases this
    by_cases e : i = j
    · by_cases e' : i' = j
      · omega
      · rw [e, upd_same, hyc, upd_ne X y e'] at h3; exact absurd h3.symm (hne i' (by omega))
    · by_cases e' : i' = j
      · rw [e', upd_same, hyc, upd_ne X y e] at h3; exact absurd h3 (hne i (by omega))
      · rw [upd_ne X y e, upd_ne X y e'] at h3; exact O.cc i i' (by omega) (by omega) h3
  · rw [old (by rw [O.wg]; exact Ow.noConfusion), O.wg]
  · by_cases hm : ow b = .mn
    · by_cases hb : b = c
      · rw [hb, owGo_c] at h; cases h
      · by_cases hs : S' b
        · rw [owGo_st hb hs hm] at h; cases h
        · rw [owGo_old hb (fun e => hs e.1), hm] at h; cases h
    · rw [old hm] at h; exact O.wg1 b h
  · rw [old (by rw [O.cst]; exact Ow.noConfusion), O.cst]
  · rw [O.fr]
    by_cases hm : ow b = .mn
    · rw [hm]
      refine ⟨fun h => (by cases h), fun h => ?_⟩
      by_cases hb : b = c
      · rw [hb, owGo_c] at h; cases h
      · by_cases hs : S' b
        · rw [owGo_st hb hs hm] at h; cases h
        · rw [owGo_old hb (fun e => hs e.1), hm] at h; cases h
    · rw [old hm]
  · have := O.low b h1 h2
    rw [old (by rw [this]; exact Ow.noConfusion), this]
  · by_cases hm : ow b = .mn
    · by_cases hb : b = c
      · rw [hb, owGo_c] at h; cases h
      · by_cases hs : S' b
        · rw [owGo_st hb hs hm] at h; cases h
        · rw [owGo_old hb (fun e => hs e.1), hm] at h; cases h
    · rw [old hm] at h; have := O.wk _ _ h; omega
  · rw [upd_ne X y (by omega)]; exact O.out i (by omega)

/-- WHATEVER STEP OF THE STARTER's AT OR AHEAD OF ITS go STATEMENT. -/
theorem St.spawn (h : St P ty Wg C n LW Rw Dr μ gs w t j X x ow a q) (h5 : x.tag = 5) : ∃ m₁ ops μ', runT P (crowd gs w sl) 0 = (.next m₁, ops) ∧ Lt3 μ' μ ∧ InvA P ty Wg C n LW Rw Dr μ' m₁ (t ++ ops) := by
  have O := h.own
  have B := h.base
  have hq0 := h.lnk.sp (by omega)
  subst hq0
  have hlen := h.lnk.len
  have hmo := h.mo
  generalize hxx : x = x' at hmo
  cases hmo with
  | lane => rw [hxx] at h5; simp at h5
  | kd => rw [hxx] at h5; simp at h5
  | a1 => rw [hxx] at h5; simp at h5
  | ke => rw [hxx] at h5; simp at h5
  | rg => rw [hxx] at h5; simp at h5
  | pk => rw [hxx] at h5; simp at h5
  | door => rw [hxx] at h5; simp at h5
  | go hw =>
    rename_i ls rest L S M f c
    rcases hw.split with hstop | ⟨hrun, g', w', es, hgo, hgn, f', hsub, hK⟩
    · obtain ⟨hrn, g', child, S', hgo, hcr, hS', hMc, hcS, hCS, hch, hHas, hscr, hK⟩ := hstop
      have hrun := runT_crowd_spawn (P := P) (sl := sl) (i := 0) h.ha (by simpa using hgo)
      obtain ⟨f1, hf1⟩ := hscr.way
      have hx1 : x.M = M := by rw [hxx]
      have hx2 : x.S = S := by rw [hxx]
      have hx3 : x.L = L := by rw [hxx]
      have hx4 : x.d = 0 := by rw [hxx]
      have hx5 : x.todo = ls :: rest := by rw [hxx]
      rw [hx1, hx2] at O
      have main : ∃ y : Mn, MOk P ty Wg C n LW Rw Dr (j + 1) y g' w ∧ y.todo = rest ∧ y.L = L ++ [(c, ls)] ∧ y.S = (fun b => S b ∨ S' b) ∧ y.M = (fun b => M b ∧ ¬ S' b ∧ b ≠ c) ∧ y.tag ≤ 9 ∧ y.tag ≠ 3 ∧ pendA y.tag = 0 ∧ y.d = 0 := by
        cases rest with
        | nil =>
          obtain ⟨f2, tag, h1, h2, h3, h4⟩ := MOk.ofRg (j := j + 1) (n := n) (C := C) (LW := LW) (L := L ++ [(c, ls)]) (fun e => by simp at e) hK
          refine ⟨_, h4, rfl, rfl, rfl, rfl, by show tag ≤ 9; omega, h2, ?_, rfl⟩
          show pendA tag = 0
          unfold pendA; rw [if_neg (by omega)]
        | cons l2 r2 =>
          obtain ⟨f2, hf2⟩ := hK
          exact ⟨⟨l2 :: r2, L ++ [(c, ls)], _, _, 9, f2, 0⟩, .lane hf2, rfl, rfl, rfl, rfl, Nat.le_refl 9, by simp, rfl, rfl⟩
      obtain ⟨y, hmo', y1, y2, y3, y4, y5, y6, y7, y8⟩ := main
      have hx' : ∀ x', x' = (⟨ls, c, fun _ => False, S', 9, f1, 0, 0⟩ : Wk) → ∃ m₁ ops μ', runT P (crowd gs w sl) 0 = (.next m₁, ops) ∧ Lt3 μ' μ ∧ InvA P ty Wg C n LW Rw Dr μ' m₁ (t ++ ops) := by
        intro x' ex
        have xc : x'.c = c := by rw [ex]
        have x9 : x'.st = 9 := by rw [ex]
        have O' := O.go hS' hMc hcS hCS (y := x') xc (by rw [ex]) (fun b => by rw [ex]; exact id)
        have hun : ∀ i, i < j → upd X j x' i = X i := fun i hi => upd_ne X x' (by omega)
        have hst : ∀ (φ : Wk → Nat), sumTo (j + 1) (fun b => φ (upd X j x' b)) = sumTo j (fun b => φ (X b)) + φ x' := fun φ => by
          show sumTo j (fun b => φ (upd X j x' b)) + φ (upd X j x' j) = _
          rw [upd_same, sumTo_upd_out X x' φ (Nat.le_refl j)]
        generalize hxo : (⟨0, a.frame.fn, a.frame.place, .go gs.size⟩ : MemOp) = o1
        generalize hyo : (⟨gs.size, child.frame.fn, a.frame.place, .start⟩ : MemOp) = o2
        have hops : ((MemOp.ofEvents 0 a.frame.fn a.frame.place #[]).push { g := 0, fn := a.frame.fn, pos := a.frame.place, act := .go gs.size }).push { g := gs.size, fn := child.frame.fn, pos := a.frame.place, act := .start } = #[o1, o2] := by
          rw [← hxo, ← hyo]; rfl
        rw [hops] at hrun
        have h1 : o1.g = 0 ∧ o1.act = .go (j + 1) := by rw [← hxo, ← B.size]; exact ⟨rfl, rfl⟩
        have h2 : o2.g = j + 1 ∧ o2.act = .start := by rw [← hyo, ← B.size]; exact ⟨rfl, rfl⟩
        have hm : ∀ op ∈ #[o1, o2], op = o1 ∨ op = o2 := by intro op hop; simpa using hop
        have hmute : ∀ op ∈ #[o1, o2], op.act.touch? = none := by
          intro op hop
          rcases hm op hop with rfl | rfl
          · rw [h1.2]; rfl
          · rw [h2.2]; rfl
        have hstl : ∀ op ∈ #[o1, o2], op.act ≠ .mark .disable ∧ op.act ≠ .mark .enable := by
          intro op hop
          rcases hm op hop with rfl | rfl
          · rw [h1.2]; exact ⟨by simp, by simp⟩
          · rw [h2.2]; exact ⟨by simp, by simp⟩
        have d0 : Deaf t 0 = 0 := by rw [B.deaf0, hx4]
        have hold : ∀ i, i < j → ((gs.setIfInBounds 0 g').push child)[i + 1]? = gs[i + 1]? := fun i hi => by
          rw [Array.getElem?_push_lt (by simp [B.size]; omega), ← Array.getElem?_eq_getElem, Array.getElem?_setIfInBounds_ne (by omega)]
        refine ⟨_, _, (rank y + sumTo (j + 1) (fun b => pot (upd X j x' b)), y.f :: lst (j + 1) (fun b => (upd X j x' b).f), sumTo (j + 1) (fun b => (upd X j x' b).m)), hrun, ?_, _, w, sl, j + 1, upd X j x', y, _, g', 0, rfl, ?_, hmo', ?_, by rw [y3, y4]; exact O', ?_,
          ⟨by rw [y2]; rw [hx3] at hlen; simp at hlen ⊢; omega, fun p c' ls' hp => ?_, fun h3 => absurd h3 y6, fun i hi => absurd hi (by omega), fun _ => rfl, fun h3 => absurd h3 y6⟩, by rw [y1]; have := h.num; rw [hx5] at this; simp at this; omega, rfl⟩
        · rw [h.mu]
          refine lt3_1 ?_
          rw [hst pot]
          have p1 : pot x' = 15 + 4 * ls.length := by rw [ex]; rfl
          have r1 : rank x = cst ls + (rest.map cst).sum + 4 * (L.length + (rest.length + 1)) + 5 := by unfold rank; rw [hx5, hx3, h5]; simp
          have r2 : rank y = (rest.map cst).sum + 4 * (L.length + 1 + rest.length) + y.tag := by unfold rank; rw [y1, y2]; simp
          have r3 : cst ls = 30 + 4 * ls.length := rfl
          omega
        · rw [Array.getElem?_push_lt (by simp [B.size]), ← Array.getElem?_eq_getElem, Array.getElem?_setIfInBounds_self_of_lt (by rw [B.size]; omega)]
        · have ct1 : CT (ShN Wg) (OwnF (upd X j x')) (RdF (upd X j x')) t j := ct_refam B.ct (fun k k1 kj l => by unfold OwnF; rw [hun (k - 1) (by omega)]) (fun k k1 kj l => by unfold RdF; rw [hun (k - 1) (by omega)])
          refine ⟨by simp [B.size], fun i hi => ?_, ct1.fork O'.apart h1 h2 d0, fun b z hz hzm => B.low b z (touch_old hmute hz) hzm, B.norel.app fun op hop => ?_, by rw [Deaf_still t 0 _ hstl, y8]; exact d0, fun i hi => ?_, fun i hi hs => ?_, fun i hi => ?_, B.pay, fun i hi => ?_, fun i hi => ?_⟩
          · rcases Nat.lt_or_ge i j with hlt | hge
            · obtain ⟨z, hz, hs⟩ := B.wk i hlt
              exact ⟨z, by rw [hold i hlt]; exact hz, by rw [hun i hlt]; exact hs⟩
            · obtain rfl : i = j := by omega
              refine ⟨child, ?_, by rw [upd_same, ex]; exact .way hf1⟩
              have hss : (gs.setIfInBounds 0 g').size = i + 1 := by simp [B.size]
              rw [← hss, Array.getElem?_push_size]
          · rcases hm op hop with rfl | rfl
            · rw [h1.2]; simp
            · rw [h2.2]; simp
          · rw [Deaf_still t _ _ hstl]
            rcases Nat.lt_or_ge i j with hlt | hge
            · rw [B.deafW i hlt, hun i hlt]
            · obtain rfl : i = j := by omega
              rw [upd_same, ex]
              exact Deaf_absent fun b op hb e => by have := B.ct.gs b op hb; omega
          · rcases Nat.lt_or_ge i j with hlt | hge
            · rw [hun i hlt] at hs
              obtain ⟨r, hr⟩ := B.rel i hlt hs
              refine ⟨r, hr.appNot fun op hop => ?_⟩
              rcases hm op hop with rfl | rfl
              · rw [h1.1]; omega
              · rw [h2.1]; omega
            · obtain rfl : i = j := by omega
              rw [upd_same, x9] at hs; omega
          · rcases Nat.lt_or_ge i j with hlt | hge
            · rw [hun i hlt]; exact B.has i hlt
            · obtain rfl : i = j := by omega
              rw [upd_same, xc]; exact hHas
          · rcases Nat.lt_or_ge i j with hlt | hge
            · rw [hun i hlt]; exact B.ch i hlt
            · obtain rfl : i = j := by omega
              rw [upd_same, xc, x9]; exact ⟨0, hch⟩
          · rcases Nat.lt_or_ge i j with hlt | hge
            · rw [hun i hlt]; exact B.low7 i hlt
            · obtain rfl : i = j := by omega
              rw [upd_same, x9]; exact .inl rfl
        · have hc : cntA (j + 1) (upd X j x') = cntA j X + 1 := by
            have := hst cnt1
            have e1 : cnt1 x' = 1 := by unfold cnt1; rw [x9]; rfl
            rw [e1] at this
            exact this
          have hwg := h.wg
          rw [h5, show pendA 5 = 1 from rfl] at hwg
          rw [hc, y7, Nat.add_zero]
          exact hwg
        · rw [y2] at hp
          rcases Nat.lt_or_ge p L.length with hlt | hge
          · rw [List.getElem?_append_left hlt] at hp
            rw [hx3] at hlen
            rw [hun (0 + p) (by omega)]
            exact h.lnk.at_ p c' ls' (by rw [hx3]; exact hp)
          · rw [List.getElem?_append_right hge] at hp
            rw [hx3] at hlen
            have e0 : p - L.length = 0 := by
              rcases Nat.eq_zero_or_pos (p - L.length) with e | e
              · exact e
              · rw [List.getElem?_eq_none (by simp; omega)] at hp; cases hp
            rw [e0] at hp
            simp at hp
            obtain ⟨rfl, rfl⟩ := hp
            rw [show 0 + p = j by omega, upd_same, ex]
            exact ⟨rfl, rfl⟩
      exact hx' _ rfl
    · exact h.go0 hgo (by rw [hxx]; exact hgn) (y := ⟨ls :: rest, L, S, more M w w', 5, f', 0⟩) (by rw [hxx]; exact ⟨rfl, rfl, rfl, rfl, rfl⟩) (by rw [hxx]) (.go hK) (by rw [h5]; simp) (by rw [hxx]; exact hsub)
end

end Go.Proofs.Ytkbfcaaihellfaa

/- Workers with lanes and their starter: the starter at its receives. No program in sight. -/
namespace Go.Proofs.Ytkbfcaaihellfaa
open Go.Conc Go.ConcN
open Go.ConcR (KK wgBlock WgAt stA smA rd wr mk Payload Aside2 DC0 Bk g_of_ofEvents)
set_option linter.unusedVariables false
set_option linter.unusedSectionVars false

section
variable [Payload] {P : Program} {ty : TypeId} {Wg C n LW : Nat} {Rw : List Int → Nat → Obj → Value → Prop} {Dr : (Nat → Prop) → (Nat → Prop) → Goroutine → World → Prop}
variable {μ : Mu} {gs gs' : Array Goroutine} {w w' : World} {sl : Option (Nat × Nat)} {t : Trace} {j q : Nat} {X : Nat → Wk} {x : Mn} {ow : Nat → Ow} {a g g' : Goroutine}

theorem St.noSend (h : St P ty Wg C n LW Rw Dr μ gs w t j X x ow a q) {c : Nat} (hc : ∀ i, i < j → (X i).st = 8 → (X i).c ≠ c) : partners (gs.setIfInBounds 0 ph) c true = [] := by
  refine partners_nil fun k y hk => ?_
  rcases getElem?_stand gs 0 k y hk with ⟨_, rfl⟩ | ⟨hne, hk'⟩
  · exact offersAt_ph _ _
  · obtain ⟨k, rfl⟩ : ∃ k', k = k' + 1 := ⟨k - 1, by omega⟩
    have hkj : k < j := by have := (Array.getElem?_eq_some_iff.1 hk').1; rw [h.base.size] at this; omega
    obtain ⟨y', hy', hs⟩ := h.base.wk k hkj
    rw [hk'] at hy'; cases hy'
    exact hs.noSend (hc k hkj)

/-- WHATEVER STEP OF THE STARTER's AT OR AHEAD OF A RECEIVE. -/
theorem St.recv (h : St P ty Wg C n LW Rw Dr μ gs w t j X x ow a q) (h4 : x.tag = 4) : ∃ m₁ ops μ', runT P (crowd gs w sl) 0 = (.next m₁, ops) ∧ Lt3 μ' μ ∧ InvA P ty Wg C n LW Rw Dr μ' m₁ (t ++ ops) := by
  have O := h.own
  have B := h.base
  have hlen := h.lnk.len
  have hmo := h.mo
  generalize hxx : x = x' at hmo
  cases hmo with
  | lane => rw [hxx] at h4; simp at h4
  | kd => rw [hxx] at h4; simp at h4
  | a1 => rw [hxx] at h4; simp at h4
  | ke => rw [hxx] at h4; simp at h4
  | go => rw [hxx] at h4; simp at h4
  | pk => rw [hxx] at h4; simp at h4
  | door => rw [hxx] at h4; simp at h4
  | rg hw =>
    rename_i c ls rest S M f
    have hx1 : x.M = M := by rw [hxx]
    have hx2 : x.S = S := by rw [hxx]
    have hx3 : x.L = (c, ls) :: rest := by rw [hxx]
    have hx4 : x.d = 0 := by rw [hxx]
    have hx5 : x.todo = [] := by rw [hxx]
    obtain ⟨hcq, hrows⟩ := h.lnk.at_ 0 c ls (by rw [hx3]; rfl)
    simp only [Nat.add_zero] at hcq hrows
    have hqj : q < j := by rw [hx3] at hlen; simp at hlen; omega
    rcases hw.split with hstop | ⟨hrun, g', w', es, hgo, hgn, f', hsub, hK⟩
    · obtain ⟨g₂, z, hall⟩ := (rstop_iff P ty Wg Rw).1 hstop
      obtain ⟨⟨hr1, hr2, hr3, hr4⟩, haft⟩ := hall w (RM.refl w)
      have hgo := hr4 w.drawn
      rw [at_self] at hgo
      have hgo' : stepG P (0 == 0) a w = .comm g₂ #[rcase c z] true (.recv true) w #[] := by simpa using hgo
      have hops : MemOp.ofEvents 0 a.frame.fn a.frame.place #[] = #[] := rfl
      obtain ⟨s, hch⟩ := B.ch q hqj
      rw [hcq] at hch
      have onlyq : ∀ i, i < j → (X i).c = c → i = q := fun i hi e => O.cc i q hi hqj (e.trans hcq.symm)
      rcases B.low7 q hqj with h9 | h8 | hle
      · -- IT IS PARKED
        rw [h9] at hch
        have hrun := crowd_waits (P := P) (sl := sl) h.ha hgo' (fun cc hcc => by
          simp at hcc
          subst hcc
          exact ways_recv_none (z := z) hch (h.noSend fun i hi h8 e => by have := onlyq i hi e; subst this; omega))
        rw [hops] at hrun
        refine ⟨_, _, (rank ⟨[], (c, ls) :: rest, S, M, 3, .leaf, 0⟩ + sumTo j (fun b => pot (X b)), Tr.leaf :: lst j (fun b => (X b).f), sumTo j (fun b => (X b).m)), hrun, ?_, _, w, sl, j, X, ⟨[], (c, ls) :: rest, S, M, 3, .leaf, 0⟩, ow, _, q, rfl, by rw [Array.getElem?_setIfInBounds_self_of_lt (by rw [B.size]; omega)],
          .pk (fun w₁ h₁ => ⟨(hall w₁ h₁).1.self, (hall w₁ h₁).2⟩), ?_, by rw [hx1, hx2] at O; exact O, ?_, ⟨by rw [hx3] at hlen; exact hlen, by have := h.lnk.at_; rw [hx3] at this; exact this, fun _ => h9, h.lnk.past, fun h5 => by simp at h5, fun _ => by simp⟩, by have := h.num; rw [hx5] at this; exact this, rfl⟩
        · rw [h.mu]
          have r1 : rank x = 4 * (rest.length + 1) + 4 := by unfold rank; rw [hx5, hx3, h4]; simp
          have r2 : rank ⟨[], (c, ls) :: rest, S, M, 3, .leaf, 0⟩ = 4 * (rest.length + 1) + 3 := by simp [rank]
          exact lt3_1 (by omega)
        · simp only [Array.append_empty]
          refine ⟨by simp [B.size], fun i hi => ?_, B.ct, B.low, B.norel, by rw [B.deaf0, hx4], B.deafW, B.rel, B.has, B.pay, B.ch, B.low7⟩
          obtain ⟨y, hy, hs⟩ := B.wk i hi
          exact ⟨y, by rw [Array.getElem?_setIfInBounds_ne (by omega)]; exact hy, hs⟩
        · have := h.wg; rw [h4] at this; exact this
      · -- A ROW
        rw [h8] at hch
        obtain ⟨y, hy, hs⟩ := B.wk q hqj
        generalize hX : X q = xq at hs
        cases hs with
        | way => rw [hX] at h8; simp at h8
        | tail7 => rw [hX] at h8; simp at h8
        | tail h6 => rw [hX] at h8; simp at h8; omega
        | park hr ho hv hK =>
          rename_i xs l c' r M' S' o v z' gw
          have eM : (X q).M = M' := by rw [hX]
          have eS : (X q).S = S' := by rw [hX]
          obtain rfl : c' = c := by rw [← hcq, hX]
          obtain rfl : ls = xs :: l := by rw [← hrows, hX]
          have hpart : partners (gs.setIfInBounds 0 ph) c' true = [(q + 1, 0)] := by
            rw [partners_one (j := q + 1) (g := parked gw #[scase c' v z'] .send) (by rw [Array.getElem?_setIfInBounds_ne (by omega)]; exact hy) (fun k y' hk hy' => ?_), offersAt_parked_send, if_pos rfl]
            · rfl
            · rcases getElem?_stand gs 0 k y' hy' with ⟨_, rfl⟩ | ⟨hne, hy''⟩
              · exact offersAt_ph _ _
              · obtain ⟨k, rfl⟩ : ∃ k', k = k' + 1 := ⟨k - 1, by omega⟩
                have hkj : k < j := by have := (Array.getElem?_eq_some_iff.1 hy'').1; rw [B.size] at this; omega
                obtain ⟨y3, hy3, hs3⟩ := B.wk k hkj
                rw [hy''] at hy3; cases hy3
                exact hs3.noSend fun _ e => hk (by rw [onlyq k hkj e])
          have hrun := crowd_recv_meets (P := P) (sl := sl) h.ha hgo' hch (j := q + 1) (by omega) hy hpart
          obtain ⟨μ', h1, h2⟩ := h.meet (sl := sl) hqj (c := c') (r := r) (s := s) (xs := xs) (l := l) (rest := rest) (o := o) (v := v) (g₂ := gw) (gm := g₂) (gs' := (gs.setIfInBounds (q + 1) (Go.Conc.served gw undef)).setIfInBounds 0 (Go.Conc.served g₂ (recvd true v true))) hx5 hx3 (.inr ⟨h4, h8⟩) hx4 (by rw [hX]) (by rw [eM]; exact hr) ho hv (by rw [eM, eS]; exact hK) (by rw [hx1, hx2]; exact haft)
            hch (by simp) (by rw [Array.getElem?_setIfInBounds_self_of_lt (by simp [B.size])]) (by rw [Array.getElem?_setIfInBounds_ne (by omega), Array.getElem?_setIfInBounds_self_of_lt (by rw [B.size]; omega)])
            (fun b h1 h2 => by rw [Array.getElem?_setIfInBounds_ne (fun e => h1 e.symm), Array.getElem?_setIfInBounds_ne (fun e => h2 e.symm)]) gw.frame.fn gw.frame.place g₂.frame.fn g₂.frame.place
          refine ⟨_, _, μ', hrun, h1, ?_⟩
          simp only [finishComm_recv, finishComm_send]
          rw [hops, Array.empty_append]
          exact h2
      · -- THE LANE's END
        have h7 : (X q).st ≤ 7 := by omega
        rw [show decide ((X q).st ≤ 7) = true from decide_eq_true h7] at hch
        obtain ⟨y, hy, hs⟩ := B.wk q hqj
        have hnil : (X q).rows = [] := by
          generalize hX : X q = xq at hs h7
          cases hs with
          | way => simp at h7
          | park => simp at h7
          | tail7 => rfl
          | tail => rfl
        obtain rfl : ls = [] := by rw [← hrows, hnil]
        have hrun := crowd_recv_closed (P := P) (sl := sl) h.ha hgo' hch (h.noSend fun i hi h8 e => by have := onlyq i hi e; subst this; omega)
        rw [hops, Array.empty_append] at hrun
        simp only [finishComm_recv] at hrun
        obtain ⟨f2, tag, t1, t2, t3, hmo'⟩ := MOk.ofRg (P := P) (ty := ty) (Wg := Wg) (C := C) (n := n) (LW := LW) (Rw := Rw) (Dr := Dr) (j := j) (L := rest) (S := S) (M := M) (g := Go.Conc.served g₂ (recvd true z false)) (w := w) (fun e w₁ h₁ => by have := (hall w₁ h₁).2; subst e; exact this) haft
        refine ⟨_, _, (rank ⟨[], rest, S, M, tag, f2, 0⟩ + sumTo j (fun b => pot (X b)), f2 :: lst j (fun b => (X b).f), sumTo j (fun b => (X b).m)), hrun, ?_, _, w, sl, j, X, ⟨[], rest, S, M, tag, f2, 0⟩, ow, _, q + 1, rfl, by rw [Array.getElem?_setIfInBounds_self_of_lt (by rw [B.size]; omega)],
          hmo', ?_, by rw [hx1, hx2] at O; exact O, ?_, ⟨by rw [hx3] at hlen; simp at hlen ⊢; omega, fun p c' ls' hp => ?_, fun h3 => absurd h3 t2, fun i hi => ?_, fun h5 => by have : tag ≤ 4 := t1; simp at h5; omega, fun h3 => absurd h3 t2⟩, by have := h.num; rw [hx5] at this; exact this, rfl⟩
        · rw [h.mu]
          have r1 : rank x = 4 * (rest.length + 1) + 4 := by unfold rank; rw [hx5, hx3, h4]; simp
          have r2 : rank ⟨[], rest, S, M, tag, f2, 0⟩ = 4 * rest.length + tag := by simp [rank]
          exact lt3_1 (by omega)
        · have hmute : ∀ op ∈ (#[{ g := 0, fn := g₂.frame.fn, pos := g₂.frame.place, act := .recvClosed c }] : Trace), op.act.touch? = none := by intro op hop; simp at hop; subst hop; rfl
          have hstl : ∀ op ∈ (#[{ g := 0, fn := g₂.frame.fn, pos := g₂.frame.place, act := .recvClosed c }] : Trace), op.act ≠ .mark .disable ∧ op.act ≠ .mark .enable := by intro op hop; simp at hop; subst hop; exact ⟨by simp, by simp⟩
          refine ⟨by simp [B.size], fun i hi => ?_, ct_mute B.ct hmute (fun op hop => by simp at hop; subst hop; exact Nat.zero_le _), fun b z hz hzm => B.low b z (touch_old hmute hz) hzm, B.norel.app fun op hop => by simp at hop; subst hop; simp, by rw [Deaf_still t 0 _ hstl, B.deaf0, hx4], fun i hi => by rw [Deaf_still t _ _ hstl, B.deafW i hi], fun i hi hs' => ?_, B.has, B.pay, B.ch, B.low7⟩
          · obtain ⟨y', hy', hs'⟩ := B.wk i hi
            exact ⟨y', by rw [Array.getElem?_setIfInBounds_ne (by omega)]; exact hy', hs'⟩
          · obtain ⟨r, hr⟩ := B.rel i hi hs'
            exact ⟨r, hr.appNot fun op hop => by simp at hop; subst hop; show 0 ≠ i + 1; omega⟩
        · have := h.wg; rw [h4] at this
          have e : pendA tag = pendA 4 := by unfold pendA; rw [if_neg (by omega), if_neg (by omega)]
          show WgAt ty Wg w (((cntA j X + pendA tag : Nat) : Int) * KK) 0
          rw [e]; exact this
        · have := h.lnk.at_ (p + 1) c' ls' (by rw [hx3]; simpa using hp)
          rw [show q + 1 + p = q + (p + 1) by omega]; exact this
        · rcases Nat.lt_or_ge i q with hlt | hge
          · exact h.lnk.past i hlt
          · obtain rfl : i = q := by omega
            exact h7
    · exact h.go0 hgo (by rw [hxx]; exact hgn) (y := ⟨[], (c, ls) :: rest, S, more M w w', 4, f', 0⟩) (by rw [hxx]; exact ⟨rfl, rfl, rfl, rfl, rfl⟩) (by rw [hxx]) (.rg hK) (by rw [h4]; simp) (by rw [hxx]; exact hsub)

/-! ### one step of the machine -/
theorem WOk.run9 {k : Nat} {y : Wk} (h : WOk P ty Wg C n LW Rw k y g w) (h9 : y.st = 9) : g.status = .running := by
  cases h with
  | way hw => exact hw.running fun _ _ _ => WStop.running
  | park => simp at h9
  | tail7 => simp at h9
  | tail h6 => simp at h9; omega
theorem St.runs (h : St P ty Wg C n LW Rw Dr μ gs w t j X x ow a q) (hD : ∀ S M g w, Dr S M g w → g.status = .running) : ∃ (i : Nat) (g : Goroutine), gs[i]? = some g ∧ g.status = .running := by
  rcases h.mo.status hD with ⟨hs, _⟩ | ⟨h3, _⟩
  · exact ⟨0, a, h.ha, hs⟩
  · have hqj : q < j := by have := h.lnk.len; have := h.lnk.pos h3; omega
    obtain ⟨g, hg, hs⟩ := h.base.wk q hqj
    exact ⟨q + 1, g, hg, hs.run9 (h.lnk.pk h3)⟩
theorem St.awake (h : St P ty Wg C n LW Rw Dr μ gs w t j X x ow a q) (hD : ∀ S M g w, Dr S M g w → g.status = .running) : ∀ g ∈ gs, awake g := by
  intro g hg tm
  obtain ⟨i, hi⟩ := Array.mem_iff_getElem?.1 hg
  cases i with
  | zero =>
    rw [h.ha] at hi; cases hi
    rcases h.mo.status hD with ⟨hs, _⟩ | ⟨_, c, ls, rest, g₂, z, _, rfl⟩
    · rw [hs]; simp
    · simp [parked]
  | succ i =>
    have hlt : i < j := by have := (Array.getElem?_eq_some_iff.1 hi).1; rw [h.base.size] at this; omega
    obtain ⟨g', hg', hs⟩ := h.base.wk i hlt
    rw [hi] at hg'; cases hg'
    rcases hs.status with (h | h) | ⟨_, g₂, v, z', rfl⟩
    · rw [h]; simp
    · rw [h]; simp
    · simp [parked]
/-- ONE STEP OF THE MACHINE, unless the starter stands at the door of Wait. -/
theorem step_A (hD : ∀ S M g w, Dr S M g w → g.status = .running) (hn : n < 2147483647) {m : Machine} (h : InvA P ty Wg C n LW Rw Dr μ m t) :
    (∃ (gs : Array Goroutine) (w : World) (sl : Option (Nat × Nat)) (j : Nat) (X : Nat → Wk) (x : Mn) (ow : Nat → Ow) (a : Goroutine) (q : Nat), m = crowd gs w sl ∧ St P ty Wg C n LW Rw Dr μ gs w t j X x ow a q ∧ x.tag = 2) ∨
      ∃ m' ops μ', stepT P m = (.next m', ops) ∧ Lt3 μ' μ ∧ InvA P ty Wg C n LW Rw Dr μ' m' (t ++ ops) := by
  obtain ⟨gs, w, sl, j, X, x, ow, a, q, rfl, h⟩ := h
  by_cases h2 : x.tag = 2
  · exact .inl ⟨gs, w, sl, j, X, x, ow, a, q, rfl, h, h2⟩
  · refine .inr ?_
    obtain ⟨i, g, d, sl', hg, hrun, hstep⟩ := crowd_pick (P := P) (w := w) (sl := sl) (h.awake hD) (h.runs hD)
    have h' := h.at d
    rw [hstep]
    cases i with
    | zero =>
      rw [h.ha] at hg; cases hg
      have htag : x.tag = 2 ∨ x.tag = 3 ∨ x.tag = 4 ∨ x.tag = 5 ∨ 6 ≤ x.tag := by
        have hmo := h.mo
        cases hmo <;> simp
      rcases htag with e | e | e | e | e
      · exact absurd e h2
      · rcases h.mo.status hD with ⟨_, hne⟩ | ⟨_, c, ls, rest, g₂, z, _, rfl⟩
        · exact absurd e hne
        · simp [parked] at hrun
      · exact h'.recv e
      · exact h'.spawn e
      · exact h'.spawnUp hn e
    | succ i =>
      have hi : i < j := by have := (Array.getElem?_eq_some_iff.1 hg).1; rw [h.base.size] at this; omega
      rcases h.base.low7 i hi with e | e | e
      · exact h'.way hD hi hg e
      · obtain ⟨g', hg', hs⟩ := h.base.wk i hi
        rw [hg] at hg'; cases hg'
        generalize hX : X i = y at hs e
        cases hs with
        | way => simp at e
        | park => simp [parked] at hrun
        | tail7 => simp at e
        | tail h6 => simp at e; omega
      · exact h'.tail hD hn hi hg hrun (by omega)
/-- TO THE DOOR OF WAIT, on every tape. -/
theorem runs_A (hD : ∀ S M g w, Dr S M g w → g.status = .running) (hn : n < 2147483647) : ∀ (μ : Mu) (m : Machine) (t : Trace), InvA P ty Wg C n LW Rw Dr μ m t →
    ∃ (N : Nat) (μ' : Mu) (gs : Array Goroutine) (w : World) (sl : Option (Nat × Nat)) (u : Trace) (j : Nat) (X : Nat → Wk) (x : Mn) (ow : Nat → Ow) (a : Goroutine) (q : Nat), runNT P N m t = (.next (crowd gs w sl), u) ∧ St P ty Wg C n LW Rw Dr μ' gs w u j X x ow a q ∧ x.tag = 2 := by
  intro μ
  induction μ using lt3_wf.induction with
  | _ μ ih =>
    intro m t h
    rcases step_A hD hn h with ⟨gs, w, sl, j, X, x, ow, a, q, rfl, hst, h2⟩ | ⟨m', ops, μ', hs, hlt, hI⟩
    · exact ⟨0, μ, gs, w, sl, t, j, X, x, ow, a, q, rfl, hst, h2⟩
    · obtain ⟨N, μ'', gs, w, sl, u, j, X, x, ow, a, q, hr, hst, h2⟩ := ih μ' hlt m' _ hI
      refine ⟨N + 1, μ'', gs, w, sl, u, j, X, x, ow, a, q, ?_, hst, h2⟩
      rw [Nat.add_comm, runNT_add]
      show _ = _
      simp only [runNT, hs]
      exact hr
end

end Go.Proofs.Ytkbfcaaihellfaa

/- Workers with lanes and their starter: none of their steps turns the outside, the tape, what was put out. -/
namespace Go.Proofs.Ytkbfcaaihellfaa
open Go.Conc Go.ConcN
open Go.ConcR (KK wgBlock WgAt stA smA rd wr mk Payload Aside2 DC0 Bk g_of_ofEvents)
set_option linter.unusedVariables false
set_option linter.unusedSectionVars false
set_option linter.unusedSimpArgs false

def Kept (w w' : World) : Prop := w'.tape = w.tape ∧ w'.os = w.os ∧ w'.output = w.output
theorem Kept.refl (w : World) : Kept w w := ⟨rfl, rfl, rfl⟩
theorem Kept.trans {a b c : World} (h : Kept a b) (k : Kept b c) : Kept a c := ⟨k.1.trans h.1, k.2.1.trans h.2.1, k.2.2.trans h.2.2⟩
/-- It asks nothing of the outside and touches no memory. -/
def Asks {α : Type} : Sem α → Prop
  | .pure _ | .halt _ => True
  | .choose _ k => ∀ n, Asks (k n)
  | .program k => ∀ p, Asks (k p)
  | _ => False
theorem asks_kept {P : Program} {α : Type} : ∀ (s : Sem α), Asks s → ∀ w, Kept w (resw (s.run P w)) ∧ (resw (s.run P w)).heap = w.heap := by
  intro s
  induction s with
  | pure a => exact fun _ w => ⟨Kept.refl w, rfl⟩
  | halt h => exact fun _ w => ⟨Kept.refl w, rfl⟩
  | choose q k ih =>
    intro h w
    unfold Sem.run
    split
    · exact ih _ (h _) w
    · obtain ⟨h1, h2⟩ := ih _ (h _) { w with drawn := w.drawn + 1 }
      exact ⟨⟨h1.1, h1.2.1, h1.2.2⟩, h2⟩
  | program k ih => exact fun h w => ih P (h P) w
  | _ => exact fun h => h.elim
theorem kept_comm {p : Program} {rest : Rest} {gs : Array Goroutine} {i : Nat} {g : Goroutine} {cases : Array CommCase} {blocking : Bool} {shape : CommShape} {w : World} {m' : Machine} {ops : Array MemOp} (ht : rest.timers = #[])
    (h : communicate p rest gs i g cases blocking shape w = (.next m', ops)) : Kept w m'.world := by
  have hw : waitingAt rest cases w = some w := by
    unfold waitingAt timerAhead
    rw [ht]
    rw [if_neg]
    simp
    intro i hi
    split <;> simp
  unfold communicate at h
  dsimp only at h
  split at h
  · cases h
  · split at h
    · split at h
      · rw [hw] at h
        cases h
        exact Kept.refl _
      · cases h
        exact Kept.refl _
    · split at h
      · cases h
      · rename_i hr
        rename_i k c way w2
        have hk : ∀ {α : Type} {s : Sem α} {x : α} {w w2 : World}, s.run p w = .ok x w2 → Asks s → Kept w w2 := fun {α s x w w2} he ha => by have := (asks_kept (P := p) s ha w).1; rw [he] at this; exact this
        have h2 : Kept w w2 := hk hr (fun n m => trivial)
        split at h
        · split at h
          · rename_i hp
            have : ∀ {s : Sem Unit} {v : Value} {w3 : World}, s.run p w2 = .halt (.panic v) w3 → Asks s → Kept w2 w3 := fun {s v w3} he ha => by have := (asks_kept (P := p) s ha w2).1; rw [he] at this; exact this
            cases h
            exact h2.trans (this hp (fun _ => trivial))
          · cases h
        · cases h; exact h2
        · cases h; exact h2
        · split at h
          · cases h; exact h2
          · split at h
            · rename_i hp
              have := hk hp (fun _ => trivial)
              cases h
              exact h2.trans this
            · cases h
        · cases h; exact h2
        · cases h; exact h2
        · cases h

def GStepK (w : World) : GStep → Prop
  | .go _ w' _ | .comm _ _ _ _ w' _ | .spawn _ _ w' _ => Kept w w'
  | _ => False
theorem runT_kept {P : Program} {gs : Array Goroutine} {w : World} {sl : Option (Nat × Nat)} {i : Nat} {g : Goroutine} {m' : Machine} {ops : Array MemOp} (hi : gs[i]? = some g) (hk : GStepK w (stepG P (i == 0) g w)) (h : runT P (crowd gs w sl) i = (.next m', ops)) : Kept w m'.world := by
  obtain ⟨hlt, rfl⟩ := Array.getElem?_eq_some_iff.1 hi
  have hsw := swapAt_of_lt hlt { (default : Goroutine) with status := .finished }
  change runT P { world := w, gs := gs, rest := { timers := #[], alone := none, slice := sl } } i = _ at h
  unfold runT at h
  simp only [hsw] at h
  generalize stepG P (i == 0) gs[i] w = s at h hk
  cases s with
  | go g' w' es => cases h; exact hk
  | comm g' cs b sh w' es =>
    simp only at h
    simp only [Prod.mk.injEq] at h
    obtain ⟨h1, _⟩ := h
    exact Kept.trans hk (kept_comm rfl (Prod.ext h1 rfl))
  | spawn g' c w' es => cases h; exact hk
  | _ => exact hk.elim

section
variable [Payload] {P : Program} {ty : TypeId} {Wg C n LW : Nat} {Rw : List Int → Nat → Obj → Value → Prop} {Dr : (Nat → Prop) → (Nat → Prop) → Goroutine → World → Prop}
variable {μ : Mu} {gs : Array Goroutine} {w : World} {sl : Option (Nat × Nat)} {t : Trace} {j q : Nat} {X : Nat → Wk} {x : Mn} {ow : Nat → Ow} {a g : Goroutine}
theorem kept_set (w : World) (a : Addr) (v : Value) : Kept w (w.setCell a v) := ⟨rfl, rfl, rfl⟩
theorem GN.kept {main : Bool} {M S : Nat → Prop} {w w' : World} {es : Array Event} (h : GN main Wg M S w w' es) : Kept w w' := ⟨h.tape, h.os, h.output⟩
theorem St.mainK (h : St P ty Wg C n LW Rw Dr μ gs w t j X x ow a q) (hn : n < 2147483647) (h2 : x.tag ≠ 2) (hrun : a.status = .running) : GStepK w (stepG P true a w) := by
  have hmo := h.mo
  have hwg := h.wg
  have B := h.base
  have hnum := h.num
  generalize hxx : x = x' at hmo h2
  cases hmo with
  | door => exact absurd rfl h2
  | pk => simp [parked] at hrun
  | lane hw =>
    rcases hw.split with hstop | ⟨_, g', w', es, hgo, hgn, _⟩
    · obtain ⟨_, g', c, _, _, hgo, _⟩ := hstop
      rw [hgo]; exact kept_set _ _ _
    · rw [hgo]; exact hgn.kept
  | kd hw =>
    rcases hw.split with hstop | ⟨_, g', w', es, hgo, hgn, _⟩
    · obtain ⟨_, g', hgo, _⟩ := hstop
      rw [hgo]; exact Kept.refl w
    · rw [hgo]; exact hgn.kept
  | a1 hw =>
    rcases hw.split with hstop | ⟨_, g', w', es, hgo, hgn, _⟩
    · obtain ⟨_, hall⟩ := hstop
      have hcl : cntA j X ≤ j := by unfold cntA; exact Nat.le_trans (sumTo_le (c := 1) fun b _ => by split <;> omega) (by omega)
      have hp : pendA x.tag = 0 := by rw [hxx]; rfl
      rw [hp] at hwg
      obtain ⟨g', hgo, _⟩ := hall (cntA j X) (by have : j ≤ n := by omega
                                                 omega) (by simpa using hwg)
      rw [hgo]; exact kept_set _ _ _
    · rw [hgo]; exact hgn.kept
  | ke hw =>
    rcases hw.split with hstop | ⟨_, g', w', es, hgo, hgn, _⟩
    · obtain ⟨_, g', hgo, _⟩ := hstop
      rw [hgo]; exact Kept.refl w
    · rw [hgo]; exact hgn.kept
  | go hw =>
    rcases hw.split with hstop | ⟨_, g', w', es, hgo, hgn, _⟩
    · obtain ⟨_, g', child, S', hgo, _⟩ := hstop
      rw [hgo]; exact Kept.refl w
    · rw [hgo]; exact hgn.kept
  | rg hw =>
    rcases hw.split with hstop | ⟨_, g', w', es, hgo, hgn, _⟩
    · obtain ⟨g₂, z, hall⟩ := (rstop_iff P ty Wg Rw).1 hstop
      have hgo := (hall w (RM.refl w)).1.2.2.2 w.drawn
      rw [at_self] at hgo
      rw [hgo]; exact Kept.refl w
    · rw [hgo]; exact hgn.kept
theorem St.wkK (h : St P ty Wg C n LW Rw Dr μ gs w t j X x ow a q) (hn : n < 2147483647) {i : Nat} (hi : i < j) (hg : gs[i + 1]? = some g) (hrun : g.status = .running) : GStepK w (stepG P false g w) := by
  have B := h.base
  have hwg := h.wg
  have hnum := h.num
  obtain ⟨g₁, hg₁, hs⟩ := B.wk i hi
  obtain rfl : g = g₁ := by rw [hg] at hg₁; exact Option.some.inj hg₁
  obtain ⟨s, hch⟩ := B.ch i hi
  have low7 := B.low7 i hi
  have cs := sumX (X := X) cnt1 hi ((X i).to 0 0 0)
  generalize hX : X i = y at hs
  cases hs with
  | park => simp [parked] at hrun
  | way hway =>
    rename_i rows c M S f m
    rcases hway.split with hstop | ⟨_, g', w', es, hgo, hgn, _⟩
    · cases rows with
      | nil =>
        obtain ⟨_, _, g', _, hstep, _⟩ := hstop
        have hgo := hstep s (by rw [hX] at hch; exact hch) w.drawn
        rw [at_self] at hgo
        rw [hgo]; exact ⟨rfl, rfl, rfl⟩
      | cons xs rest =>
        obtain ⟨_, r, o, v, _, _, _, g₂, z', hgo, _⟩ := hstop
        have hgo := hgo w.drawn
        rw [at_self] at hgo
        rw [hgo]; exact Kept.refl w
    · rw [hgo]; exact hgn.kept
  | tail7 hgs =>
    rcases Goes.cases hgs with hstop | ⟨m', rfl, hstep⟩
    · obtain ⟨_, _, g', hgo, _⟩ := hstop w (RW.refl w)
      rw [hgo]; exact Kept.refl w
    · obtain ⟨g', w', es, hgo, ⟨e1, e2⟩, _⟩ := hstep w (RW.refl w)
      rw [hgo, e1]; exact Kept.refl w
  | tail h6 hsit =>
    rename_i s' m d
    have hst : (X i).st = s' := by rw [hX]
    rw [hst] at low7
    cases hsit with
    | r0 _ => omega
    | d2 _ => omega
    | d3 _ => omega
    | d4 _ => omega
    | k1 hgs =>
      rcases Goes.cases hgs with hstop | ⟨m', rfl, hstep⟩
      · obtain ⟨_, g', hgo, _⟩ := hstop w (RW.refl w)
        rw [hgo]; exact Kept.refl w
      · obtain ⟨g', w', es, hgo, ⟨e1, e2⟩, _⟩ := hstep w (RW.refl w)
        rw [hgo, e1]; exact Kept.refl w
    | d1 hgs =>
      rcases Goes.cases hgs with hstop | ⟨m', rfl, hstep⟩
      · obtain ⟨_, hall⟩ := hstop w (RW.refl w)
        have hcn : cntA j X = sumTo j (fun b => cnt1 (X b)) := rfl
        have hci : cnt1 (X i) = 1 := by unfold cnt1; rw [hst]; rfl
        have hc0 : cnt1 ((X i).to 0 0 0) = 0 := rfl
        have hcl : cntA j X ≤ j := by unfold cntA; exact Nat.le_trans (sumTo_le (c := 1) fun b _ => by split <;> omega) (by omega)
        have hpd : pendA x.tag ≤ 1 := by unfold pendA; split <;> omega
        obtain ⟨v, hv⟩ : ∃ v, cntA j X + pendA x.tag = v + 1 := ⟨cntA j X + pendA x.tag - 1, by rw [hcn]; omega⟩
        rw [hv] at hwg
        have hw1 : WgAt ty Wg w (((v : Nat) + 1) * KK + ((0 : Nat) : Int)) 0 := by simpa using hwg
        obtain ⟨g', hgo, _⟩ := hall v 0 (by omega) (by have : j ≤ n := by omega
                                                       omega) hw1
        rw [hgo]; exact kept_set _ _ _
      · obtain ⟨g', w', es, hgo, ⟨e1, e2⟩, _⟩ := hstep w (RW.refl w)
        rw [hgo, e1]; exact Kept.refl w
    | quit hgs =>
      cases m with
      | zero => rw [hgs.1] at hrun; cases hrun
      | succ qq =>
        rcases hgs with ⟨hf, _⟩ | ⟨_, g', es, _, hstep, _⟩
        · rw [hf] at hrun; cases hrun
        · rw [hstep w]; exact Kept.refl w
theorem step_kept (hD : ∀ S M g w, Dr S M g w → g.status = .running) (hn : n + 1 < 2147483647) (h : St P ty Wg C n LW Rw Dr μ gs w t j X x ow a q) (h2 : x.tag ≠ 2) {m' : Machine} {ops : Array MemOp} (hs : stepT P (crowd gs w sl) = (.next m', ops)) : Kept w m'.world := by
  obtain ⟨i, g, d, sl', hg, hrun, hstep⟩ := crowd_pick (P := P) (w := w) (sl := sl) (h.awake hD) (h.runs hD)
  rw [hstep] at hs
  have h' := h.at d
  refine Kept.trans (b := w.at d) ⟨rfl, rfl, rfl⟩ ?_
  cases i with
  | zero =>
    rw [h.ha] at hg; cases hg
    exact runT_kept h.ha (by simpa using h'.mainK (by omega) h2 hrun) hs
  | succ i =>
    have hi : i < j := by have := (Array.getElem?_eq_some_iff.1 hg).1; rw [h.base.size] at this; omega
    exact runT_kept hg (by simpa using h'.wkK (by omega) hi hg hrun) hs
/-- TO THE DOOR OF WAIT, on every tape, the outside kept. -/
theorem runs_AK (hD : ∀ S M g w, Dr S M g w → g.status = .running) (hn : n + 1 < 2147483647) : ∀ (μ : Mu) (m : Machine) (t : Trace), InvA P ty Wg C n LW Rw Dr μ m t →
    ∃ (N : Nat) (μ' : Mu) (gs : Array Goroutine) (w : World) (sl : Option (Nat × Nat)) (u : Trace) (j : Nat) (X : Nat → Wk) (x : Mn) (ow : Nat → Ow) (a : Goroutine) (q : Nat), runNT P N m t = (.next (crowd gs w sl), u) ∧ St P ty Wg C n LW Rw Dr μ' gs w u j X x ow a q ∧ x.tag = 2 ∧ Kept m.world w := by
  intro μ
  induction μ using lt3_wf.induction with
  | _ μ ih =>
    intro m t h
    obtain ⟨gs, w, sl, j, X, x, ow, a, q, rfl, hst⟩ := h
    by_cases h2 : x.tag = 2
    · exact ⟨0, μ, gs, w, sl, t, j, X, x, ow, a, q, rfl, hst, h2, Kept.refl w⟩
    · rcases step_A hD (by omega) ⟨gs, w, sl, j, X, x, ow, a, q, rfl, hst⟩ with ⟨gs', w', sl', j', X', x', ow', a', q', e, hst', h2'⟩ | ⟨m', ops, μ', hs, hlt, hI⟩
      · exact ⟨0, μ, gs', w', sl', t, j', X', x', ow', a', q', by rw [e]; rfl, hst', h2', (congrArg Machine.world e : w = w') ▸ Kept.refl _⟩
      · obtain ⟨N, μ'', gs', w', sl', u, j', X', x', ow', a', q', hr, hst', h2', hk⟩ := ih μ' hlt m' _ hI
        refine ⟨N + 1, μ'', gs', w', sl', u, j', X', x', ow', a', q', ?_, hst', h2', (step_kept hD hn hst h2 hs).trans hk⟩
        rw [Nat.add_comm, runNT_add]
        simp only [runNT, hs]
        exact hr
end
end Go.Proofs.Ytkbfcaaihellfaa

namespace Go.Proofs.Ytkbfcaaihellfaa.Fr
set_option maxRecDepth 100000

/-! The three facts of a frame that hang on the head of the dump, once for all laws of the seat: its signs as a list; of its words only the first three count. -/

theorem skip (w r : List Char) (h : w.all (fun c => !(c == Char.ofNat 32)) = true) : wordsSigns (w ++ Char.ofNat 32 :: r) = w :: wordsSigns r := by
  induction w with
  | nil => rfl
  | cons a w ih =>
    simp only [List.all_cons, Bool.and_eq_true, Bool.not_eq_true', beq_eq_false_iff_ne] at h
    rw [List.cons_append, wordsSigns.eq_3 _ _ h.1, ih h.2]

def rest : List Char := [Char.ofNat 97, Char.ofNat 116, Char.ofNat 32, Char.ofNat 108, Char.ofNat 111, Char.ofNat 111, Char.ofNat 112, Char.ofNat 46, Char.ofNat 101, Char.ofNat 120, Char.ofNat 97, Char.ofNat 109, Char.ofNat 112, Char.ofNat 108, Char.ofNat 101, Char.ofNat 47, Char.ofNat 115, Char.ofNat 101, Char.ofNat 108, Char.ofNat 102, Char.ofNat 109, Char.ofNat 97, Char.ofNat 112, Char.ofNat 115, Char.ofNat 47, Char.ofNat 108, Char.ofNat 97, Char.ofNat 119, Char.ofNat 115, Char.ofNat 46, Char.ofNat 70, Char.ofNat 110, Char.ofNat 69, Char.ofNat 120, Char.ofNat 97, Char.ofNat 99, Char.ofNat 116, Char.ofNat 82, Char.ofNat 111, Char.ofNat 111, Char.ofNat 116, Char.ofNat 115, Char.ofNat 79, Char.ofNat 102, Char.ofNat 32, Char.ofNat 108, Char.ofNat 111, Char.ofNat 111, Char.ofNat 112, Char.ofNat 46, Char.ofNat 101, Char.ofNat 120, Char.ofNat 97, Char.ofNat 109, Char.ofNat 112, Char.ofNat 108, Char.ofNat 101, Char.ofNat 47, Char.ofNat 115, Char.ofNat 101, Char.ofNat 108, Char.ofNat 102, Char.ofNat 109, Char.ofNat 97, Char.ofNat 112, Char.ofNat 115, Char.ofNat 47, Char.ofNat 108, Char.ofNat 97, Char.ofNat 119, Char.ofNat 115, Char.ofNat 46, Char.ofNat 70, Char.ofNat 110, Char.ofNat 69, Char.ofNat 120, Char.ofNat 97, Char.ofNat 99, Char.ofNat 116, Char.ofNat 65, Char.ofNat 108, Char.ofNat 108, Char.ofNat 87, Char.ofNat 105, Char.ofNat 116, Char.ofNat 104, Char.ofNat 32, Char.ofNat 108, Char.ofNat 111, Char.ofNat 111, Char.ofNat 112, Char.ofNat 46, Char.ofNat 101, Char.ofNat 120, Char.ofNat 97, Char.ofNat 109, Char.ofNat 112, Char.ofNat 108, Char.ofNat 101, Char.ofNat 47, Char.ofNat 115, Char.ofNat 101, Char.ofNat 108, Char.ofNat 102, Char.ofNat 109, Char.ofNat 97, Char.ofNat 112, Char.ofNat 115, Char.ofNat 47, Char.ofNat 108, Char.ofNat 97, Char.ofNat 119, Char.ofNat 115, Char.ofNat 46, Char.ofNat 70, Char.ofNat 110, Char.ofNat 65, Char.ofNat 108, Char.ofNat 108, Char.ofNat 87, Char.ofNat 105, Char.ofNat 116, Char.ofNat 104, Char.ofNat 32, Char.ofNat 108, Char.ofNat 111, Char.ofNat 111, Char.ofNat 112, Char.ofNat 46, Char.ofNat 101, Char.ofNat 120, Char.ofNat 97, Char.ofNat 109, Char.ofNat 112, Char.ofNat 108, Char.ofNat 101, Char.ofNat 47, Char.ofNat 115, Char.ofNat 101, Char.ofNat 108, Char.ofNat 102, Char.ofNat 109, Char.ofNat 97, Char.ofNat 112, Char.ofNat 115, Char.ofNat 47, Char.ofNat 108, Char.ofNat 97, Char.ofNat 119, Char.ofNat 115, Char.ofNat 46, Char.ofNat 70, Char.ofNat 110, Char.ofNat 82, Char.ofNat 111, Char.ofNat 111, Char.ofNat 116, Char.ofNat 115, Char.ofNat 79, Char.ofNat 102, Char.ofNat 32, Char.ofNat 108, Char.ofNat 111, Char.ofNat 111, Char.ofNat 112, Char.ofNat 46, Char.ofNat 101, Char.ofNat 120, Char.ofNat 97, Char.ofNat 109, Char.ofNat 112, Char.ofNat 108, Char.ofNat 101, Char.ofNat 47, Char.ofNat 115, Char.ofNat 101, Char.ofNat 108, Char.ofNat 102, Char.ofNat 109, Char.ofNat 97, Char.ofNat 112, Char.ofNat 115, Char.ofNat 47, Char.ofNat 108, Char.ofNat 97, Char.ofNat 119, Char.ofNat 115, Char.ofNat 46, Char.ofNat 70, Char.ofNat 110, Char.ofNat 84, Char.ofNat 117, Char.ofNat 114, Char.ofNat 110, Char.ofNat 82, Char.ofNat 111, Char.ofNat 111, Char.ofNat 116, Char.ofNat 79, Char.ofNat 107, Char.ofNat 32, Char.ofNat 108, Char.ofNat 111, Char.ofNat 111, Char.ofNat 112, Char.ofNat 46, Char.ofNat 101, Char.ofNat 120, Char.ofNat 97, Char.ofNat 109, Char.ofNat 112, Char.ofNat 108, Char.ofNat 101, Char.ofNat 47, Char.ofNat 115, Char.ofNat 101, Char.ofNat 108, Char.ofNat 102, Char.ofNat 109, Char.ofNat 97, Char.ofNat 112, Char.ofNat 115, Char.ofNat 47, Char.ofNat 108, Char.ofNat 97, Char.ofNat 119, Char.ofNat 115, Char.ofNat 46, Char.ofNat 70, Char.ofNat 110, Char.ofNat 84, Char.ofNat 117, Char.ofNat 114, Char.ofNat 110, Char.ofNat 115, Char.ofNat 87, Char.ofNat 105, Char.ofNat 116, Char.ofNat 104]

theorem headIs : Try.prog.initOrder = String.ofList ([Char.ofNat 104, Char.ofNat 97, Char.ofNat 114, Char.ofNat 110, Char.ofNat 101, Char.ofNat 115, Char.ofNat 115] ++ Char.ofNat 32 :: ([Char.ofNat 56, Char.ofNat 97, Char.ofNat 50, Char.ofNat 54, Char.ofNat 54, Char.ofNat 100, Char.ofNat 51, Char.ofNat 54, Char.ofNat 97, Char.ofNat 101, Char.ofNat 53, Char.ofNat 97, Char.ofNat 53, Char.ofNat 51, Char.ofNat 52, Char.ofNat 56, Char.ofNat 101, Char.ofNat 53, Char.ofNat 50, Char.ofNat 54, Char.ofNat 53, Char.ofNat 97, Char.ofNat 54, Char.ofNat 98, Char.ofNat 50, Char.ofNat 48, Char.ofNat 98, Char.ofNat 97, Char.ofNat 100, Char.ofNat 55, Char.ofNat 56, Char.ofNat 54, Char.ofNat 52, Char.ofNat 98, Char.ofNat 49, Char.ofNat 49, Char.ofNat 98, Char.ofNat 53, Char.ofNat 98, Char.ofNat 57, Char.ofNat 53, Char.ofNat 100, Char.ofNat 50, Char.ofNat 49, Char.ofNat 101, Char.ofNat 52, Char.ofNat 102, Char.ofNat 55, Char.ofNat 51, Char.ofNat 50, Char.ofNat 55, Char.ofNat 53, Char.ofNat 97, Char.ofNat 55, Char.ofNat 53, Char.ofNat 99, Char.ofNat 49, Char.ofNat 100, Char.ofNat 98, Char.ofNat 102, Char.ofNat 102, Char.ofNat 53, Char.ofNat 52, Char.ofNat 97] ++ Char.ofNat 32 :: ([Char.ofNat 99, Char.ofNat 117, Char.ofNat 116] ++ Char.ofNat 32 :: rest))) := by kernel_rfl

theorem words : behindMainWord (wordsSigns Try.prog.initOrder.toList) = [Char.ofNat 99, Char.ofNat 117, Char.ofNat 116] :: wordsSigns rest := by
  rw [headIs, String.toList_ofList, skip _ _ (by decide +kernel), skip _ _ (by decide +kernel), skip _ _ (by decide +kernel)]
  unfold behindMainWord
  exact if_pos (by decide +kernel)

theorem sGc : ([Char.ofNat 99, Char.ofNat 117, Char.ofNat 116] == "gc".toList) = false := by kernel_rfl
theorem sSpec : ([Char.ofNat 99, Char.ofNat 117, Char.ofNat 116] == "spec".toList) = false := by kernel_rfl
theorem sCar : ([Char.ofNat 99, Char.ofNat 117, Char.ofNat 116] == "carried".toList) = false := by kernel_rfl
theorem sCut : ([Char.ofNat 99, Char.ofNat 117, Char.ofNat 116] == "cut".toList) = true := by kernel_rfl
theorem sLift (r : List (List Char)) : stripLifts liftWords ([Char.ofNat 99, Char.ofNat 117, Char.ofNat 116] :: r) = ([], [Char.ofNat 99, Char.ofNat 117, Char.ofNat 116] :: r) := by kernel_rfl
theorem sLater : Try.prog.laysLater = false := by kernel_rfl
theorem sDoor : Try.prog.doorFits [] = true := by kernel_rfl
theorem sRefl : Try.prog.bearsReflect = false := by kernel_rfl
theorem sHead (r : List (List Char)) : (([Char.ofNat 99, Char.ofNat 117, Char.ofNat 116] :: r).head? == some "cut".toList) = true := by kernel_rfl

theorem may_of (P : Program) (c : List Char) (r : List (List Char)) (h : behindMainWord (wordsSigns P.initOrder.toList) = c :: r)
    (h1 : (c == "gc".toList) = false) (h2 : (c == "spec".toList) = false) (h3 : (c == "carried".toList) = false) (h4 : stripLifts liftWords (c :: r) = ([], c :: r))
    (h5 : ((c :: r).head? == some "cut".toList) = true) (h6 : P.laysLater = false) (h7 : P.doorFits [] = true) (h8 : P.bearsReflect = false) : P.mayEnter = true := by
  unfold Program.mayEnter
  rw [h]
  simp only [h1, h2, h3, h4, h5, h6, h7, h8, Bool.or_self, Bool.false_and, Bool.true_and, Bool.not_false, Bool.or_true, List.contains_nil]

theorem may : Try.prog.mayEnter = true := may_of _ _ _ words sGc sSpec sCar (sLift _) (sHead _) sLater sDoor sRefl

theorem lifts : Try.prog.headLifts = [] := by
  unfold Program.headLifts
  rw [words]
  generalize wordsSigns rest = r
  kernel_rfl

theorem liftsF : Try.prog.liftsFinal = false := by
  unfold Program.liftsFinal
  rw [words, lifts]
  generalize wordsSigns rest = r
  kernel_rfl

theorem made_of (P : Program) (c : List Char) (r : List (List Char)) (h : behindMainWord (wordsSigns P.initOrder.toList) = c :: r)
    (h1 : (c == "gc".toList) = false) (h2 : (c == "spec".toList) = false) (h3 : (c == "cut".toList) = true) : P.make = some .cut := by
  unfold Program.make
  rw [h]
  simp only [h1, h2, h3, Bool.or_self, Bool.true_or, if_true, Bool.false_eq_true, if_false]

theorem made : Try.prog.make = some .cut := made_of _ _ _ words sGc sSpec sCut

end Go.Proofs.Ytkbfcaaihellfaa.Fr

/- Contracts of small functions of the counts. -/
namespace Go.Proofs.Ytkbfcaaihellfaa
open Go.RowKit
set_option linter.unusedVariables false

theorem hid {p : Prop} (h : p) : Hid p := h

theorem ret_bool {a b : Bool} (h : a = b) : Ending.returned (.bool a) = .returned (.bool b) := by rw [h]
theorem ret_int {k : IntKind} {a b : Int} (h : a = b) : Ending.returned (.int k a) = .returned (.int k b) := by rw [h]

theorem l1In_t (n lo hi : Int) (w : World) (h : lo ≤ n ∧ n ≤ hi) :
    Calls Try.prog 55 #[.int .i64 n, .int .i64 lo, .int .i64 hi] w fun e w' => e = .returned (.bool true) ∧ w = w' := by
  obtain ⟨h1, h2⟩ := h
  go_enter Try.func55, Try.ntmps55
  go_wp2
  all_goals go_ret
  all_goals exact ⟨ret_bool (by first | rfl | (simp; omega)), rfl⟩
theorem l1In_f (n lo hi : Int) (w : World) (h : ¬ (lo ≤ n ∧ n ≤ hi)) :
    Calls Try.prog 55 #[.int .i64 n, .int .i64 lo, .int .i64 hi] w fun e w' => e = .returned (.bool false) ∧ w = w' := by
  go_enter Try.func55, Try.ntmps55
  go_wp2
  all_goals go_ret
  all_goals exact ⟨ret_bool (by first | rfl | (simp; omega)), rfl⟩
def partsN : Nat → Nat → Int
  | 0, 0 => 1
  | 0, _ + 1 => 0
  | _ + 1, 0 => 0
  | t + 1, l + 1 => if l + 1 > t + 1 then 0 else partsN t l + (l + 1) * partsN t (l + 1)

theorem partsN_bd : ∀ t ≤ 7, ∀ l ≤ 7, 0 ≤ partsN t l ∧ partsN t l ≤ 1000 := by decide +kernel
theorem partsN_bd' (t l : Int) (h1 : t ≤ 7) (h2 : l ≤ 7) : 0 ≤ partsN t.toNat l.toNat ∧ partsN t.toNat l.toNat ≤ 1000 := partsN_bd _ (by omega) _ (by omega)
theorem partsN_lt (t l : Nat) (h : t < l) : partsN t l = 0 := by
  cases t <;> cases l <;> simp [partsN] <;> omega
theorem partsN_z (t : Nat) : partsN (t + 1) 0 = 0 := rfl
theorem partsN_rec (t l : Int) (h : 0 < l) (h2 : l ≤ t) : partsN t.toNat l.toNat = partsN (t - 1).toNat (l - 1).toNat + l * partsN (t - 1).toNat l.toNat := by
  obtain ⟨a, rfl⟩ : ∃ a : Nat, t = a + 1 := ⟨(t - 1).toNat, by omega⟩
  obtain ⟨b, rfl⟩ : ∃ b : Nat, l = b + 1 := ⟨(l - 1).toNat, by omega⟩
  rw [show ((a : Int) + 1).toNat = a + 1 by omega, show ((b : Int) + 1).toNat = b + 1 by omega, partsN, if_neg (by omega)]
  congr 2 <;> congr 1 <;> omega

def partsOf (t l : Int) : Int := if (0 ≤ t ∧ t ≤ 7) ∧ (0 ≤ l ∧ l ≤ 7) then partsN t.toNat l.toNat else -1
end Go.Proofs.Ytkbfcaaihellfaa
