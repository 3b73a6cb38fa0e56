/- Steps on the way to the law; each part says what it proves. -/
import Derived.Test.YtkbfcaaihellfaaW2
import Derived.Test.YtkbfcaaihellfaaU22
import Derived.Conc.CrowdRun
import Derived.Test.YtkbfcaaihellfaaU23
import Derived.Test.YtkbfcaaihellfaaU9
import Derived.Test.YtkbfcaaihellfaaU14

set_option linter.unusedSimpArgs false

/- From mapsThat's last receive through Wait to its return, whatever its caller goes on to. -/
namespace Go.Proofs.Ytkbfcaaihellfaa
open Go.Conc Go.ConcN Go.ConcN.Gen Go.RowKit Go.Conc.Lib Go.ConcR.Gen
open Go.ConcR (KK wgBlock WgAt stA smA rd wr Payload Aside2 DC0)
set_option linter.unusedVariables false
set_option linter.unusedSectionVars false

section
variable [Payload] {L : WgLink} {P : Program} {Sb : Nat → Prop} {Post : Value → World → Prop} {Wg C n : Nat} {Own Rd : Nat → Loc → Prop} {Lw : Nat → Nat} {val : Nat → Value} {F : World → Prop}
  {b₀ : Frame} {a₀ : Act} {ops₀ : Array Oper} {i₀ : Nat} {rest₀ : List Nat} {k₀ : List Item} {cs : List Frame}
set_option maxRecDepth 100000 in
set_option maxHeartbeats 8000000 in
theorem wait_start (H : WgLib P L) (A : ApS Sb n (ShN Wg) Own Rd) (Gg : Geo Wg C Lw) (hn : n < 2147483648) (hF2 : ∀ w w', Aside2 C Wg w w' → F w → F w')
    (hc : ∀ w, F w → WgLive L.tWg Wg w → LA P (Sw Sb Wg) Post () (G (b₀.atR (a₀.put ((ops₀[i₀]?).bind (·.dst)) (.tuple #[])) (.inRegion ops₀ rest₀ :: k₀)) cs) w) (w : World) (hF : F w ∧ WgLive L.tWg Wg w) :
    TK P Sb Post L.tWg Wg C n Own Rd Lw val .kd 0 n () (G ((base L.wait).atR ⟨#[.pointer (some ⟨Wg, 0, none⟩)] ++ Array.replicate 83 undef, []⟩ [.code (body_wait L)]) (b₀.atR a₀ (.inRegion ops₀ (i₀ :: rest₀) :: k₀) :: cs)) w := by
  lib_facts
  have hT := clo_tk (P := P) (Sb := Sb) (Post := Post) (ty := L.tWg) (val := val) (tag := .kd) (d0 := 0) (V := n) A Gg hn rfl (by simp)
  have hk2 : (base L.wait).kind ≠ .early := by simp [base]
  have hro : (base L.wait).roundOf = none := rfl
  have hW := wait_round (Post := Post) (val := val) H A Gg hn hF2 hc n
  simp only [L7, body_wait, waitFn, Option.getD_some] at hW ⊢
  simp only [List.size_toArray, List.length_cons, List.length_nil, Nat.reduceAdd, Nat.reduceSub, Array.replicate_succ, Array.replicate_zero, List.push_toArray, List.append_toArray, List.nil_append, List.cons_append]
  replace hW := hid hW
  repeat (first | refine t_seq hT ?_ | refine t_block hT ?_ | refine t_skip hT ?_ | refine t_inBlock hT ?_ | refine t_rend hT ?_ | refine t_exit hT rfl ?_)
  refine t_cond hT (t := true) (by first | rfl | (simp [Act.eval]; omega)) ?_
  simp only [if_true, if_false, reduceIte, Bool.false_eq_true]
  repeat (first | refine t_seq hT ?_ | refine t_block hT ?_ | refine t_skip hT ?_ | refine t_inBlock hT ?_ | refine t_rend hT ?_ | refine t_exit hT rfl ?_)
  refine t_region hT _ rfl ?_
  simp only [List.size_toArray, List.length_cons, List.length_nil, Nat.reduceAdd, Nat.zero_add, List.range, List.range.loop]
  refine tk_book A Gg hn rfl (by simp) rfl fun w₁ D st sm hR hw hm hv => ?_
  replace hF := rk_carry (u := ()) hF2 hF hR
  clear hR hT
  refine ⟨_, w₁, #[Go.ConcR.mk .disable], .anch, n, st, sm, stepG_mark0 .disable (by simp) rfl rfl hk2 rfl H.f_disable (x_disable_n L) (x_disable_b L) (x_disable_x L) (x_disable_f L), .refl Wg w₁, bk_dis, hw, hm.reopen trivial trivial rfl (by simp), hv, ?_⟩
  clear hw hm hv D
  have hT := clo_tk (P := P) (Sb := Sb) (Post := Post) (ty := L.tWg) (val := val) (tag := .anch) (d0 := 1) (V := n) A Gg hn rfl (by simp)
  walk_nrm
  change TK P Sb Post L.tWg Wg C n Own Rd Lw val .anch 1 n () (G ((base L.wait).atR _ _) _) _
  repeat (first | refine t_seq hT ?_ | refine t_block hT ?_ | refine t_skip hT ?_ | refine t_inBlock hT ?_ | refine t_rend hT ?_ | refine t_exit hT rfl ?_)
  refine t_loop1 hT ?_
  exact hW.out _ _ rfl rfl hF
end

section
variable {Sb : Nat → Prop} {Wg C nn c : Nat} {Own Rd : Nat → Loc → Prop} {F : World → Prop} {c0 : Frame} {cs : List Frame} {v : Value} {a : Act} {w : World} {Post : Value → World → Prop} {Lw : Nat → Nat} {val : Nat → Value}
set_option maxRecDepth 100000 in
set_option maxHeartbeats 8000000 in
theorem through_wait (A : ApS Sb nn (ShN Wg) Own Rd) (Gg : Geo Wg C Lw) (hF2 : ∀ w w', Aside2 C Wg w w' → F w → F w') (hn1 : 1 ≤ nn) (hn7 : nn ≤ 7) (hLv : LiveI Wg C nn (nn - 1) c v a) (hF : F w ∧ WgLive wgL.tWg Wg w)
    (hc : ∀ w, F w → WgLive wgL.tWg Wg w → LA Try.prog (Sw Sb Wg) Post () (G (c0.finish v) cs) w) :
    TK Try.prog Sb Post wgL.tWg Wg C nn Own Rd Lw val .kd 0 nn () (G ((base 41).atR (a.put (some 35) (Go.Conc.recvd true (.slice none 0 0) false)) (.inRegion r41.1 [1] :: .code r41.2 :: i41)) (c0 :: cs)) w := by
  obtain ⟨tmps, ds⟩ := a
  obtain ⟨rfl, hsz, h5, h9, h28, h29, h30, h34⟩ := hLv
  obtain ⟨J, rfl⟩ : ∃ J : Nat → Value, tmps = #[J 0, J 1, J 2, J 3, J 4, J 5, J 6, J 7, J 8, J 9, J 10, J 11, J 12, J 13, J 14, J 15, J 16, J 17, J 18, J 19, J 20, J 21, J 22, J 23, J 24, J 25, J 26, J 27, J 28, J 29, J 30, J 31, J 32, J 33, J 34, J 35, J 36, J 37, J 38, J 39, J 40, J 41, J 42, J 43, J 44] := ⟨fun i => tmps.getD i undef, (lit tmps).trans (by rw [hsz]; rfl)⟩
  change J 5 = _ at h5
  change J 9 = _ at h9
  change J 28 = _ at h28
  change J 29 = _ at h29
  change J 30 = _ at h30
  change J 34 = _ at h34
  simp only [h5, h9, h28, h29, h30, h34]
  clear hsz h5 h9 h28 h29 h30
  have hsum : ((nn - 1 : Nat) : Int) + 1 = (nn : Int) := by omega
  generalize ((nn - 1 : Nat) : Int) = jj at *
  have hb1 : -9223372036854775808 ≤ (nn : Int) := by omega
  have hb2 : (nn : Int) ≤ 9223372036854775807 := by omega
  have hwr : IntKind.i64.wrap (nn : Int) = nn := by rw [IntKind.wrap_i64]; omega
  have hnot : decide ((nn : Int) < (nn : Int)) = false := by simp
  have hn : nn < 2147483648 := by omega
  unfold i41
  simp only [r41, q41, p41, c41, Try.f41, recvd, if_true]
  walk_nrm
  have hT := clo_tk (P := Try.prog) (Sb := Sb) (Post := Post) (ty := wgL.tWg) (val := val) (tag := .kd) (d0 := 0) (V := nn) A Gg hn rfl (by simp)
  have hk2 : (base 41).kind ≠ .early := base_kind _
  have hro : (base 41).roundOf = none := rfl
  change TK Try.prog Sb Post wgL.tWg Wg C nn Own Rd Lw val .kd 0 nn () (G ((base 41).atR _ _) _) w
  refine t_op hT rfl (by rfl) (by first | decide | assumption) (by first | rfl | (rw [hro]; rfl)) (fun _ hR K hK => ?_)
  replace hF := rk_carry hF2 hF hR
  clear hR
  go_simp
  try (unfold stored; go_simp)
  try go_ints
  refine hK _ _ () (by rw [listed_nil (by simp [go_sem, *])]; exact hT.idle _ _) ?_
  clear hK K
  try walk_nrm
  try w_num
  repeat (first | refine t_seq hT ?_ | refine t_block hT ?_ | refine t_skip hT ?_ | refine t_inBlock hT ?_ | refine t_rend hT ?_ | refine t_exit hT rfl ?_)
  refine t_cond hT (t := false) (by first | rfl | (simp [Act.eval]; omega)) ?_
  simp only [if_true, if_false, reduceIte, Bool.false_eq_true]
  repeat (first | refine t_seq hT ?_ | refine t_block hT ?_ | refine t_skip hT ?_ | refine t_inBlock hT ?_ | refine t_rend hT ?_ | refine t_exit hT rfl ?_)
  refine t_region hT _ rfl ?_
  simp only [List.size_toArray, List.length_cons, List.length_nil, Nat.reduceAdd, Nat.zero_add, List.range, List.range.loop]
  refine t_op hT rfl (by rfl) (by first | decide | assumption) (by first | rfl | (rw [hro]; rfl)) (fun _ hR K hK => ?_)
  replace hF := rk_carry hF2 hF hR
  clear hR
  go_simp
  try (unfold stored; go_simp)
  try go_ints
  refine hK _ _ () (by rw [listed_nil (by simp [go_sem, *])]; exact hT.idle _ _) ?_
  clear hK K
  try walk_nrm
  try w_num
  refine t_op hT rfl (by rfl) (by first | decide | assumption) (by first | rfl | (rw [hro]; rfl)) (fun _ hR K hK => ?_)
  replace hF := rk_carry hF2 hF hR
  clear hR
  go_simp
  try (unfold stored; go_simp)
  try go_ints
  refine hK _ _ () (by rw [listed_nil (by simp [go_sem, *])]; exact hT.idle _ _) ?_
  clear hK K
  try walk_nrm
  try w_num
  repeat (first | refine t_seq hT ?_ | refine t_block hT ?_ | refine t_skip hT ?_ | refine t_inBlock hT ?_ | refine t_rend hT ?_ | refine t_exit hT rfl ?_)
  refine t_inLoop hT ?_
  repeat (first | refine t_seq hT ?_ | refine t_block hT ?_ | refine t_skip hT ?_ | refine t_inBlock hT ?_ | refine t_rend hT ?_ | refine t_exit hT rfl ?_)
  refine t_region hT _ rfl ?_
  simp only [List.size_toArray, List.length_cons, List.length_nil, Nat.reduceAdd, Nat.zero_add, List.range, List.range.loop]
  refine t_op hT rfl (by rfl) (by first | decide | assumption) (by first | rfl | (rw [hro]; rfl)) (fun _ hR K hK => ?_)
  replace hF := rk_carry hF2 hF hR
  clear hR
  go_simp
  try (unfold stored; go_simp)
  try go_ints
  refine hK _ _ () (by rw [listed_nil (by simp [go_sem, *])]; exact hT.idle _ _) ?_
  clear hK K
  try walk_nrm
  try w_num
  repeat (first | refine t_seq hT ?_ | refine t_block hT ?_ | refine t_skip hT ?_ | refine t_inBlock hT ?_ | refine t_rend hT ?_ | refine t_exit hT rfl ?_)
  refine t_cond hT (t := false) (by first | rfl | (simp [Act.eval]; omega)) ?_
  simp only [if_true, if_false, reduceIte, Bool.false_eq_true]
  repeat (first | refine t_seq hT ?_ | refine t_block hT ?_ | refine t_skip hT ?_ | refine t_inBlock hT ?_ | refine t_rend hT ?_ | refine t_exit hT rfl ?_)
  refine t_region hT _ rfl ?_
  simp only [List.size_toArray, List.length_cons, List.length_nil, Nat.reduceAdd, Nat.zero_add, List.range, List.range.loop]
  have H := wgLib
  refine t_into (code := body_wait wgL) hT rfl (by rfl) hk2 rfl rfl H.f_wait (nm_wait wgL) rfl ?_
  have hargs : ∀ (X : Array Value) (c : Frame) (w : World), X = #[.pointer (some ⟨Wg, 0, none⟩)] → TK Try.prog Sb Post wgL.tWg Wg C nn Own Rd Lw val .kd 0 nn () (G ((base wgL.wait).atR ⟨#[.pointer (some ⟨Wg, 0, none⟩)] ++ Array.replicate 83 undef, []⟩ [.code (body_wait wgL)]) (c :: c0 :: cs)) w →
      TK Try.prog Sb Post wgL.tWg Wg C nn Own Rd Lw val .kd 0 nn () (G ((base wgL.wait).atR ⟨X ++ Array.replicate ((waitFn wgL).ntmps - X.size) undef, []⟩ [.code (body_wait wgL)]) (c :: c0 :: cs)) w := fun X c w e h => by
    subst e
    have e2 : (waitFn wgL).ntmps - (#[Value.pointer (some ⟨Wg, 0, none⟩)] : Array Value).size = 83 := rfl
    rw [e2]
    exact h
  refine hargs _ _ _ (by simp [Act.eval]) ?_
  refine wait_start H A Gg hn hF2 ?_ _ hF
  intro w hF hl
  clear hT hargs
  have hT := clo_la (P := Try.prog) (Sb := Sw Sb Wg) (Post := Post)
  replace hF := And.intro hF hl
  clear hl
  walk_nrm
  repeat (first | refine t_seq hT ?_ | refine t_block hT ?_ | refine t_skip hT ?_ | refine t_inBlock hT ?_ | refine t_rend hT ?_ | refine t_exit hT rfl ?_)
  refine t_region hT _ rfl ?_
  simp only [List.size_toArray, List.length_cons, List.length_nil, Nat.reduceAdd, Nat.zero_add, List.range, List.range.loop]
  refine t_op hT rfl (by rfl) (by first | decide | assumption) (by first | rfl | (rw [hro]; rfl)) (fun _ hR K hK => ?_)
  replace hF := rb_carry hF2 hF hR
  clear hR
  go_simp
  try (unfold stored; go_simp)
  try go_ints
  refine hK _ _ () (by rw [listed_nil (by simp [go_sem, *])]; exact hT.idle _ _) ?_
  clear hK K
  try walk_nrm
  try w_num
  refine t_op hT rfl (by rfl) (by first | decide | assumption) (by first | rfl | (rw [hro]; rfl)) (fun _ hR K hK => ?_)
  replace hF := rb_carry hF2 hF hR
  clear hR
  go_simp
  try (unfold stored; go_simp)
  try go_ints
  refine hK _ _ () (by rw [listed_nil (by simp [go_sem, *])]; exact hT.idle _ _) ?_
  clear hK K
  try walk_nrm
  try w_num
  repeat (first | refine t_seq hT ?_ | refine t_block hT ?_ | refine t_skip hT ?_ | refine t_inBlock hT ?_ | refine t_rend hT ?_ | refine t_exit hT rfl ?_)
  refine t_ret hT hro rfl rfl Try.func41 (resultsC_tmp (by rfl) _) ?_
  have hf := hc _ hF.1 hF.2
  exact hf
end
end Go.Proofs.Ytkbfcaaihellfaa

/- From the door of Wait the kit's theorem of the crowd takes over. -/
namespace Go.Proofs.Ytkbfcaaihellfaa
open Go.Conc Go.ConcN
open Go.ConcR (KK wgBlock WgAt stA smA rd wr mk Payload Aside2 DC0)
set_option linter.unusedVariables false
set_option linter.unusedSectionVars false

section
variable [Payload] {P : Program} {ty : TypeId} {Wg C n LW : Nat} {Rw : List Int → Nat → Obj → Value → Prop} {Dr : (Nat → Prop) → (Nat → Prop) → Goroutine → World → Prop}
theorem goes_dws {Own Rd : Nat → Loc → Prop} {R : World → World → Prop} {Stop Stop' : Goroutine → World → Prop} {k : Nat} (hs : ∀ g w, Stop g w → Stop' g w) (m : Nat) : ∀ (g : Goroutine) (w : World), Goes P false R DC0 Stop m g w → Goes P false R (DWs Wg Own Rd C n k) Stop' m g w := by
  induction m with
  | zero => exact fun g w hg w₁ r => hs _ _ (hg w₁ r)
  | succ m ih =>
    intro g w hg
    rcases hg with hg | ⟨hr, hg⟩
    · exact .inl fun w₁ r => hs _ _ (hg w₁ r)
    · refine .inr ⟨hr, fun w₁ r => ?_⟩
      have := hg w₁ r
      revert this
      generalize stepG P false g w₁ = s
      intro this
      cases s with
      | go g' w' es =>
        obtain ⟨⟨e1, e2⟩, h2⟩ := this
        subst e1 e2
        exact ⟨Go.ConcN.Gen.dws_none (by simp), ih _ _ h2⟩
      | _ => exact this
theorem wsit_fam {Own Rd : Nat → Loc → Prop} {k s m d : Nat} {v : Value} {g : Goroutine} {w : World} (hs : s ≤ 6) (h : WSit P ty Wg C n no no LW k v s m d g w) : WSit P ty Wg C n Own Rd LW k v s m d g w := by
  cases h with
  | r0 h => omega
  | k1 h => exact .k1 h
  | d1 h => exact .d1 h
  | d2 h => exact .d2 h
  | d3 h => exact .d3 h
  | d4 h => exact .d4 h
  | quit h => exact .quit h
end
end Go.Proofs.Ytkbfcaaihellfaa

/- mapsThat, from its row of lanes on, on every tape, whatever its caller goes on to. -/
namespace Go.Proofs.Ytkbfcaaihellfaa
open Go.Conc Go.ConcN
open Go.ConcR (KK wgBlock WgAt stA smA rd wr Payload Aside2 DC0)
set_option linter.unusedVariables false
set_option linter.unusedSectionVars false

section
variable [Payload] {P : Program} {Sb : Nat → Prop} {ty : TypeId} {Wg C n LW : Nat} {Rw : List Int → Nat → Obj → Value → Prop} {Dr : (Nat → Prop) → (Nat → Prop) → Goroutine → World → Prop}
theorem hand_kd {μ : Mu} {gs : Array Goroutine} {w : World} {t : Trace} {j q : Nat} {X : Nat → Wk} {x : Mn} {ow : Nat → Ow} {a : Goroutine}
    (h : St P Sb ty Wg C n LW Rw Dr μ gs w t j X x ow a q) (h2 : x.tag = 2) :
    ∃ (D : Nat → WD) (st : Int), gs[0]? = some a ∧ Com P ty Wg C n (OwnF X) (RdF X) (fun _ => LW) (fun i => .chan (some (X i).c)) n gs w t D 0 ∧ WgAt ty Wg w st 0 ∧ Go.ConcN.Mode n D .kd st 0 ∧ j = n ∧ RelAll Wg n t D := by
  have B := h.base
  have hL : x.L = [] ∧ x.todo = [] ∧ x.d = 0 := by
    have := h.mo
    generalize hx : x = x' at this
    cases this <;> simp [hx] at h2 ⊢
  have hq : q = j := by have := h.lnk.len; rw [hL.1] at this; simpa using this
  have hj : j = n := by have := h.num; rw [hL.2.1] at this; simpa using this
  subst hj
  have hst : ∀ i, i < j → (X i).st ≤ 7 := fun i hi => h.lnk.past i (by omega)
  have hV : Vc j (fun i => ⟨(X i).st, (X i).m, (X i).d⟩) = cntA j X := rfl
  refine ⟨fun i => ⟨(X i).st, (X i).m, (X i).d⟩, _, h.ha, ?_, h.wg, ?_, rfl, fun i hi hs => B.rel i hi hs⟩
  · refine ⟨B.size, fun i hi => ?_, B.ct, B.norel, by rw [B.deaf0, hL.2.2], B.deafW, fun i hi hs => (let ⟨r, hr⟩ := B.rel i hi hs; ⟨r, hr.by_⟩), fun i hi _ => B.has i hi, B.pay⟩
    obtain ⟨g, hg, hw⟩ := B.wk i hi
    refine ⟨g, hg, ?_⟩
    have h7 := hst i hi
    generalize hX : X i = y at hw h7
    cases hw with
    | way _ => simp at h7
    | park => simp at h7
    | tail7 hgs => exact .r0 (goes_dws (fun _ _ h => h) _ _ _ hgs)
    | tail h6 hs => exact wsit_fam h6 hs
  · have hpend : pendA x.tag = 0 := by rw [h2]; rfl
    rw [hpend, ← hV]
    refine .opn trivial (fun i hi => ?_) (fun vs e => by cases e)
    have := B.low7 i hi
    have := hst i hi
    show (X i).st = 7 ∨ (X i).st = 6 ∨ (X i).st = 5 ∨ (X i).st = 1
    omega
theorem apS_of {w : World} {X : Nat → Wk} {M0 S0 : Nat → Prop} {ow : Nat → Ow} (h : OwnG Sb Wg C LW n w X M0 S0 ow) : ApS Sb n (ShN Wg) (OwnF X) (RdF X) := by
  refine ⟨h.apart, fun k h1 hk l hl => ?_⟩
  rcases hl with hl | hl
  · exact h.shn (by rw [h.hm hl.2.2]; exact Ow.noConfusion)
  · rcases hl.2 with ⟨_, hl⟩ | rfl
    · exact h.shw (k - 1) (by omega) _ hl
    · exact h.shn (by rw [show blk (.obj (X (k - 1)).c) = (X (k - 1)).c from rfl, h.c (k - 1) (by omega)]; exact Ow.noConfusion)
/-- what is the starter's was made behind the beginning -/
theorem own_new {w : World} {X : Nat → Wk} {M0 S0 : Nat → Prop} {ow : Nat → Ow} (h : OwnG Sb Wg C LW n w X M0 S0 ow) (hW : Wg < LW) {b : Nat} (hb : M0 b) : LW ≤ b ∧ b < w.heap.size := by
  have e := (h.m0 b).1 hb
  refine ⟨Nat.le_of_not_lt fun hlt => ?_, h.lt (by rw [e]; exact Ow.noConfusion)⟩
  by_cases e' : b = Wg
  · rw [e', h.wg] at e; cases e
  · rw [h.low b hlt e'] at e; cases e
end

/-- what stands below the call's memory, but for the group and the row of lanes -/
def Below2 (w : World) (Wg C : Nat) (b : Nat) : Prop := b < w.heap.size ∧ b ≠ Wg ∧ b ≠ C
theorem allR_slice {M : Nat → Prop} {v : Value} {R : List (List Int)} {w : World} (h : AllR M v R w) : ∃ ad cap, v = .slice ad R.length cap := by
  obtain ⟨xs, ⟨h1, h2⟩, _⟩ := h
  rcases h2 with ⟨rfl, h3⟩ | ⟨g, cap, cur, rfl, _⟩
  · exact ⟨none, 0, by rw [h3]⟩
  · exact ⟨_, _, rfl⟩
theorem mapsThat_la {Wg C bT bX fF nn n0 : Nat} {cap : Array Value} {SF : Nat → Prop} {Fq : World → Prop} {w : World} {c0 : Frame} {cs : List Frame} {p : List Int → Bool} {a : Act} {Rj : Nat → List (List Int)} {Sb : Nat → Prop} {Post : Value → World → Prop} (H : Tst Wg C w.heap.size fF nn cap SF Fq p Rj) (hAll : ((rowsFrom p Rj 0 nn).flatten).length ≤ 1000000)
    (hLv : LiveS Wg C bT bX nn a) (hM : MI wgL.tWg Wg C bT bX fF nn cap SF Fq (fun b => b < w.heap.size ∧ b ≠ Wg ∧ ¬ Sb b) (fun _ => False, []) [] w) (hSb : ∀ b, Sb b → b < w.heap.size ∧ b ≠ Wg ∧ b ≠ C) (hSc : ∀ b, Sb b → IsRow w b) (hwg : WgAt wgL.tWg Wg w 0 0) (hn : n0 ≤ Wg)
    (hK : ∀ (M : Nat → Prop) (wd : World) (ad : Option Addr) (cp : Nat), (∀ b, M b → w.heap.size ≤ b ∧ b < wd.heap.size) → AllR M (.slice ad ((rowsFrom p Rj 0 nn).flatten).length cp) (rowsFrom p Rj 0 nn).flatten wd → Fq wd → Kept w wd → w.heap.size ≤ wd.heap.size → WgLive wgL.tWg Wg wd → (∀ b, Sb b → IsRow wd b) →
      LA Try.prog (Sw Sb Wg) Post () (G (c0.finish (.slice ad ((rowsFrom p Rj 0 nn).flatten).length cp)) cs) wd) :
    LAn Try.prog Sb Post n0 () (G ((base 41).atR a [.code s41, .code c41.2]) (c0 :: cs)) w := by
  intro t ht
  obtain ⟨ct, low, norel, deaf⟩ := ht.ct hn
  have hWl : Wg < w.heap.size := live_lt hM.live
  have hCl : C < w.heap.size := hM.sC.1
  refine to_door (cs := c0 :: cs) H hAll hLv hM hSb hSc hwg ct (fun i a ha hm => by have := low i a ha hm; omega) norel deaf (fun μ gs w' u j X x ow g q hSt h2 hkp hsz => ?_)
  obtain ⟨S, M, hD, hxM⟩ : ∃ S M, Dr41 Wg C nn Fq (c0 :: cs) (rowsFrom p Rj 0 nn).flatten S M g w' ∧ x.M = M := by
    have := hSt.mo
    generalize hx : x = x' at this
    cases this <;> simp [hx] at h2
    case door S M h => exact ⟨S, M, h w' (RM.refl w'), rfl⟩
  obtain ⟨L, c, a', v, hLv', hMR, hA, rfl⟩ := hD
  obtain ⟨ad, cp, rfl⟩ := allR_slice hA
  obtain ⟨D, st, h0, hcom, hw, hmode, rfl, hrs⟩ := hand_kd hSt h2
  have hown := hSt.own
  subst hxM
  have hMl : ∀ b, x.M b → w.heap.size ≤ b ∧ b < w'.heap.size := fun b hb => own_new hown hWl hb
  have hT := through_wait (Sb := Sb) (Post := Post) (Lw := fun _ => w.heap.size) (val := fun i => .chan (some (X i).c)) (c0 := c0) (cs := cs) (F := fun w₁ => (∀ b, (x.M b ∨ Below2 w Wg C b) → w₁.heap[b]? = w'.heap[b]?) ∧ w'.heap.size ≤ w₁.heap.size ∧ Kept w w₁) (apS_of hown) ⟨fun _ _ _ => Nat.le_refl _, hWl, hCl, hM.sC.2.1⟩
    (fun w1 w2 ha h => ⟨fun b hb => (ha.block b (fun e => by subst e; exact hb.elim hMR.mC fun h => h.2.2 rfl) (fun e => by subst e; exact hb.elim (fun h => by have := (hown.m0 _).1 h; rw [hown.wg] at this; cases this) fun h => h.2.1 rfl)).trans (h.1 b hb), by rw [ha.size]; exact h.2.1, h.2.2.trans ⟨ha.tape, ha.os, ha.output⟩⟩) H.n1 H.n7 hLv' ⟨⟨fun _ _ => rfl, Nat.le_refl _, hkp⟩, hMR.live⟩
    (fun w₁ hF hl => hK x.M w₁ ad cp (fun b hb => ⟨(hMl b hb).1, Nat.lt_of_lt_of_le (hMl b hb).2 hF.2.1⟩) (hA.heap (fun b hb => hF.1 b (.inl hb)) fun _ h => h) (H.fq w' w₁ (fun b hb => hF.1 b (.inr ⟨(hM.sf b hb).1.1, (hM.sf b hb).1.2.1, (hM.sf b hb).2⟩)) hMR.fk) hF.2.2 (Nat.le_trans hsz hF.2.1) hl (fun b hb => (hown.sbc b hb).of (hF.1 b (.inr ⟨(hSb b hb).1, (hSb b hb).2.1, (hSb b hb).2.2⟩))))
  exact hT w' (.refl w') gs u D st 0 h0 hcom hw hmode (Vc_le _ D) hrs
end Go.Proofs.Ytkbfcaaihellfaa

/- mapsThat's head, a goroutine alone on whatever schedule: to its row of lanes. -/
namespace Go.Proofs.Ytkbfcaaihellfaa
open Go.Conc Go.ConcN Go.ConcN.Gen Go.RowKit Go.Conc.Lib Go.ConcR.Gen
open Go.ConcR (KK wgBlock WgAt stA smA rd wr mk Payload Aside2 DC0)
set_option linter.unusedVariables false
set_option linter.unusedSectionVars false

section
variable {Sb : Nat → Prop}
theorem da_nil {w w' : World} {es : Array Event} (h : es = #[]) (hw : w.heap.size ≤ w'.heap.size) : DA Sb () w w' es () := ⟨hw, by rw [h]; simp⟩
theorem dan_nil {n : Nat} {w w' : World} {es : Array Event} (h : es = #[]) : DAn Sb n () w w' es () := by rw [h]; simp [DAn]
theorem at_alloc (w : World) (d : Nat) (o : Obj) : (w.at d).alloc o = (w.alloc o).at d := rfl
theorem at_heap (w : World) (d : Nat) : (w.at d).heap = w.heap := rfl
theorem at_set (w : World) (d : Nat) (a : Addr) (x : Value) : (w.at d).setCell a x = (w.setCell a x).at d := rfl
theorem la_strip {P : Program} {main : Bool} {D : Unit → World → World → Array Event → Unit → Prop} {T : Unit → Goroutine → World → Prop} (hT : Clo P main RA1 D T) {y : Unit} {g : Goroutine} {w : World} {d : Nat} (h : T y g w) : T y g (w.at d) := hT.rely h ⟨d, rfl⟩
end
section
variable {Sb : Nat → Prop} {Post : Value → World → Prop} {fF nn : Nat} {cap : Array Value} {w : World} {c0 : Frame} {cs : List Frame}
set_option maxHeartbeats 4000000 in
/-- mapsThat, alone, to its row of lanes: the number of things in the first block that it makes, the test in the second, the group in the third, the row in the fourth. -/
theorem head41_la (hn7 : nn ≤ 7) (hSl : ∀ r, Sb r → r < w.heap.size) (hc : ∀ a w', LiveS (w.heap.size + 2) (w.heap.size + 3) w.heap.size (w.heap.size + 1) nn a → (∀ b, b < w.heap.size → w'.heap[b]? = w.heap[b]?) → w'.heap.size = w.heap.size + 4 → Kept w w' → w'.heap[w.heap.size]? = some (.cells #[.int .i64 nn] 3) →
      w'.heap[w.heap.size + 1]? = some (.cells #[.func (.func fF) #[] cap] 30) → WgAt wgL.tWg (w.heap.size + 2) w' 0 0 → w'.heap[w.heap.size + 3]? = some (.cells (madeCells #[.chan none] nn) 62) →
      LAn Try.prog Sb Post (w.heap.size + 2) () (G ((base 41).atR a [.code s41, .code c41.2]) (c0 :: cs)) w') :
    LA Try.prog Sb Post () (G (Frame.enter Try.prog 41 #[.int .i64 nn, .func (.func fF) #[] cap] .normal) (c0 :: cs)) w := by
  rw [enter_atR _ Try.func41 rfl]
  have hT := clo_la (P := Try.prog) (Sb := Sb) (Post := Post)
  have hk : (base 41).kind ≠ .early := base_kind _
  have hro : (base 41).roundOf = none := rfl
  simp only [Try.ntmps41, List.size_toArray, List.length_cons, List.length_nil, Nat.reduceAdd, Nat.reduceSub, Array.replicate_succ, Array.replicate_zero, List.push_toArray, List.append_toArray, List.nil_append, List.cons_append]
  generalize hT' : LA Try.prog Sb Post = T at hT ⊢
  repeat (first | refine t_seq hT ?_ | refine t_block hT ?_ | refine t_skip hT ?_ | refine t_inBlock hT ?_ | refine t_rend hT ?_ | refine t_exit hT rfl ?_)
  refine t_region hT [0, 1, 2] rfl ?_
  refine t_op hT rfl (by rfl) (by first | decide | assumption) (by first | rfl | (rw [hro]; rfl)) (fun w₁ hR K hK => ?_)
  obtain ⟨d, rfl⟩ := hR
  go_simp
  try (unfold stored; go_simp)
  try go_ints
  refine hK _ _ () (da_nil (listed_nil (by simp [go_sem, *])) (by simp only [alloc_size]; omega)) ?_
  clear hK K
  try simp only [at_alloc, at_set, at_heap]
  refine la_strip hT ?_
  try walk_nrm
  refine t_op hT rfl (by rfl) (by first | decide | assumption) (by first | rfl | (rw [hro]; rfl)) (fun w₁ hR K hK => ?_)
  obtain ⟨d, rfl⟩ := hR
  go_simp
  try (unfold stored; go_simp)
  try go_ints
  refine hK _ _ () (da_nil (listed_nil (by simp [go_sem, *])) (by simp only [alloc_size]; omega)) ?_
  clear hK K
  try simp only [at_alloc, at_set, at_heap]
  refine la_strip hT ?_
  try walk_nrm
  refine t_op hT rfl (by rfl) (by first | decide | assumption) (by first | rfl | (rw [hro]; rfl)) (fun w₁ hR K hK => ?_)
  obtain ⟨d, rfl⟩ := hR
  go_simp
  try (unfold stored; go_simp)
  try go_ints
  refine hK _ _ () (da_nil (listed_nil (by simp [go_sem, *])) (Nat.le_refl _)) ?_
  clear hK K
  try simp only [at_alloc, at_set, at_heap]
  refine la_strip hT ?_
  try walk_nrm
  repeat (first | refine t_seq hT ?_ | refine t_block hT ?_ | refine t_skip hT ?_ | refine t_inBlock hT ?_ | refine t_rend hT ?_ | refine t_exit hT rfl ?_)
  refine t_region hT [0] rfl ?_
  subst hT'
  refine la_of_lan ?_
  clear hT
  have hT := clo_lan (P := Try.prog) (Sb := Sb) (Post := Post) (n := w.heap.size + 2)
  have e2 : ((w.alloc (.cells #[.int .i64 nn] 3)).alloc (.cells #[.func (.func fF) #[] cap] 30)).heap.size = w.heap.size + 2 := by simp only [alloc_size]
  have k2 : ∀ b, b < w.heap.size → ((w.alloc (.cells #[.int .i64 nn] 3)).alloc (.cells #[.func (.func fF) #[] cap] 30)).heap[b]? = w.heap[b]? := fun b hb => (alloc_get (by rw [alloc_size]; omega)).trans (alloc_get hb)
  have t2 : ((w.alloc (.cells #[.int .i64 nn] 3)).alloc (.cells #[.func (.func fF) #[] cap] 30)).heap[w.heap.size]? = some (.cells #[.int .i64 nn] 3) := (alloc_get (by rw [alloc_size]; omega)).trans Array.getElem?_push_size
  have x2 : ((w.alloc (.cells #[.int .i64 nn] 3)).alloc (.cells #[.func (.func fF) #[] cap] 30)).heap[w.heap.size + 1]? = some (.cells #[.func (.func fF) #[] cap] 30) := by
    rw [show w.heap.size + 1 = (w.alloc (.cells #[.int .i64 nn] 3)).heap.size from alloc_size.symm]
    exact Array.getElem?_push_size
  have q2 : Kept w ((w.alloc (.cells #[.int .i64 nn] 3)).alloc (.cells #[.func (.func fF) #[] cap] 30)) := ⟨rfl, rfl, rfl⟩
  rw [e2]
  generalize (w.alloc (.cells #[.int .i64 nn] 3)).alloc (.cells #[.func (.func fF) #[] cap] 30) = W2 at *
  have hSN : ¬ Sb w.heap.size := fun h => Nat.lt_irrefl _ (hSl _ h)
  generalize w.heap.size = N at *
  generalize LAn Try.prog Sb Post (N + 2) = T at hT hc ⊢
  refine t_op hT rfl (by rfl) (by first | decide | assumption) (by first | rfl | (rw [hro]; rfl)) (fun w₁ hR K hK => ?_)
  obtain ⟨d, rfl⟩ := hR
  go_simp
  try (unfold stored; go_simp)
  try go_ints
  refine hK _ _ () (dan_nil (listed_nil (by simp [go_sem, *]))) ?_
  clear hK K
  try simp only [at_alloc, at_set, at_heap]
  refine la_strip hT ?_
  try walk_nrm
  have k3 : ∀ b, b < N + 2 → (W2.alloc (wgBlock 60 0 0)).heap[b]? = W2.heap[b]? := fun b hb => alloc_get (by omega)
  have g3 : WgAt wgL.tWg (N + 2) (W2.alloc (wgBlock 60 0 0)) 0 0 := by
    unfold WgAt
    rw [← e2]
    exact Array.getElem?_push_size
  have q3 : Kept w (W2.alloc (wgBlock 60 0 0)) := q2.trans ⟨rfl, rfl, rfl⟩
  have e3 : (W2.alloc (wgBlock 60 0 0)).heap.size = N + 3 := by rw [alloc_size, e2]
  simp only [e2]
  change T () _ (W2.alloc (wgBlock 60 0 0))
  generalize W2.alloc (wgBlock 60 0 0) = W3 at *
  have t3 := (k3 N (by omega)).trans t2
  have x3 := (k3 (N + 1) (by omega)).trans x2
  have o3 : ∀ b, b < N → W3.heap[b]? = w.heap[b]? := fun b hb => (k3 b (by omega)).trans (k2 b hb)
  clear k2 t2 x2 e2 k3
  have hcl := cell_of_heap (k := 0) (v := .int .i64 nn) t3 rfl
  repeat (first | refine t_seq hT ?_ | refine t_block hT ?_ | refine t_skip hT ?_ | refine t_inBlock hT ?_ | refine t_rend hT ?_ | refine t_exit hT rfl ?_)
  refine t_region hT [0, 1, 2] rfl ?_
  refine t_op hT rfl (by rfl) (by first | decide | assumption) (by first | rfl | (rw [hro]; rfl)) (fun w₁ hR K hK => ?_)
  obtain ⟨d, rfl⟩ := hR
  have hcd : (W3.at d).cell? ⟨N, 0, none⟩ = some (.int .i64 nn) := hcl
  go_simp
  try (unfold stored; go_simp)
  try go_ints
  refine hK _ _ () ((by unfold DAn; co_evs (exact ⟨evP_cell _ _ _ (by show N < N + 2; omega), shy_cell (hSN ·)⟩))) ?_
  clear hK K
  try simp only [at_alloc, at_set, at_heap]
  refine la_strip hT ?_
  try walk_nrm
  have hmk := fun w => run_mkL nn (by omega) w
  have hev := fun w es => evs_mkL nn (by omega) w es
  refine t_op hT rfl (by rfl) (by first | decide | assumption) (by first | rfl | (rw [hro]; rfl)) (fun w₁ hR K hK => ?_)
  obtain ⟨d, rfl⟩ := hR
  go_simp
  try (unfold stored; go_simp)
  try go_ints
  refine hK _ _ () (dan_nil (listed_nil (by simp [go_sem, *]))) ?_
  clear hK K
  try simp only [at_alloc, at_set, at_heap]
  refine la_strip hT ?_
  try walk_nrm
  have k4 : ∀ b, b < N + 3 → (W3.alloc (.cells (madeCells #[.chan none] nn) 62)).heap[b]? = W3.heap[b]? := fun b hb => alloc_get (by omega)
  have r4 : (W3.alloc (.cells (madeCells #[.chan none] nn) 62)).heap[N + 3]? = some (.cells (madeCells #[.chan none] nn) 62) := by
    rw [← e3]
    exact Array.getElem?_push_size
  have q4 : Kept w (W3.alloc (.cells (madeCells #[.chan none] nn) 62)) := q3.trans ⟨rfl, rfl, rfl⟩
  have e4 : (W3.alloc (.cells (madeCells #[.chan none] nn) 62)).heap.size = N + 4 := by rw [alloc_size, e3]
  clear hmk hev
  simp only [e3]
  generalize W3.alloc (.cells (madeCells #[.chan none] nn) 62) = W4 at *
  refine t_op hT rfl (by rfl) (by first | decide | assumption) (by first | rfl | (rw [hro]; rfl)) (fun w₁ hR K hK => ?_)
  obtain ⟨d, rfl⟩ := hR
  go_simp
  try (unfold stored; go_simp)
  try go_ints
  refine hK _ _ () (dan_nil (listed_nil (by simp [go_sem, *]))) ?_
  clear hK K
  try simp only [at_alloc, at_set, at_heap]
  refine la_strip hT ?_
  try walk_nrm
  refine t_rend hT ?_
  refine t_seq hT ?_
  refine hc _ _ ⟨rfl, rfl, rfl, rfl, rfl, rfl⟩ (fun b hb => (k4 b (by omega)).trans (o3 b hb)) e4 q4 ((k4 N (by omega)).trans t3) ((k4 (N + 1) (by omega)).trans x3) ?_ r4
  unfold WgAt
  exact (k4 (N + 2) (by omega)).trans g3
end
end Go.Proofs.Ytkbfcaaihellfaa

/- RootsOf, alone up to its workers, and behind them. -/
namespace Go.Proofs.Ytkbfcaaihellfaa
open Go.Conc Go.ConcN Go.ConcN.Gen Go.RowKit Go.Conc.Lib Go.ConcR.Gen
open Go.ConcR (KK wgBlock WgAt stA smA rd wr mk Payload Aside2 DC0)
set_option linter.unusedVariables false
set_option linter.unusedSectionVars false

/-- all rows of m numbers below n, in order -/
def rowsAll (n : Nat) : Nat → List (List Int)
  | 0 => [[]]
  | m + 1 => (List.range n).flatMap fun (j : Nat) => (rowsAll n m).map fun r => ((j : Nat) : Int) :: r
def rowsOf (n j : Nat) : List (List Int) := (rowsAll n (n - 1)).map fun r => (j : Int) :: r
def chainB (n : Nat) : List (List Int) → Bool
  | [] => false
  | xs :: t => decide (xs.length = n) && (xs.all fun x => decide (0 ≤ x) && decide (x < n)) && (match t with
    | [] => decide (nextR n xs = none)
    | zs :: _ => decide (nextR n xs = some zs) && chainB n t)
theorem chainB_ok {n : Nat} : ∀ {L : List (List Int)}, chainB n L = true → ChainR n L
  | [], h => by cases h
  | [xs], h => by
    simp only [chainB, Bool.and_eq_true, decide_eq_true_eq, List.all_eq_true] at h
    exact ⟨h.1.1, fun x hx => h.1.2 x hx, h.2⟩
  | xs :: zs :: t, h => by
    rw [chainB] at h
    simp only [Bool.and_eq_true, decide_eq_true_eq, List.all_eq_true] at h
    exact ⟨h.1.1, fun x hx => h.1.2 x hx, h.2.1, chainB_ok h.2.2⟩
theorem rows_chain : ∀ n, n < 5 → ∀ j, j < n → chainB n (rowsOf n j) = true ∧ (rowsOf n j).head? = some ((j : Int) :: List.replicate (n - 1) 0) := by decide +kernel
/-- the maps of so many things that pass a test, in order -/
def thatL (p : List Int → Bool) (n : Nat) : List (List Int) := (rowsFrom p (rowsOf n) 0 n).flatten
theorem rowsAll_len : ∀ n, n < 5 → ∀ m, m < 4 → (rowsAll n m).length ≤ 64 := by decide +kernel
theorem thatL_len {p : List Int → Bool} {n : Nat} (hn : n ≤ 4) : (thatL p n).length ≤ 1000 := by
  have key : ∀ k j, ((rowsFrom p (rowsOf n) j k).flatten).length ≤ 64 * k := by
    intro k
    induction k with
    | zero => intro j; simp [rowsFrom]
    | succ k ih =>
      intro j
      have h1 := ih (j + 1)
      have h2 : ((rowsOf n j).filter p).length ≤ 64 := Nat.le_trans (List.length_filter_le _ _) (by unfold rowsOf; rw [List.length_map]; exact rowsAll_len n (by omega) _ (by omega))
      simp only [rowsFrom, List.flatten_cons, List.length_append]
      omega
  have := key n 0
  unfold thatL
  omega

/-- the roots of a map of at most four things, in order -/
def rootsL (f : List Int) : List (List Int) := thatL (fun g => decide (behindL g g = f)) f.length

theorem madeCells_size (v : Value) (n : Nat) : (madeCells #[v] n).size = n := by simp [size_madeCells]
/-- what is asked of the test of RootsOf -/
theorem tst_roots {Wg C LW N bf : Nat} {A : Option Addr} {c : Nat} {f : List Int} {w0 : World} (h1 : 1 ≤ f.length) (h4 : f.length ≤ 4) (hN : w0.heap.size = N) (hbf : bf < N) (hbox : w0.heap[bf]? = some (.cells #[.slice A f.length c] 22)) (hA : RdA w0 A f) :
    Tst Wg C LW 42 f.length #[.pointer (some ⟨bf, 0, none⟩)] (fun b => b < N) (fun W => ∀ b, b < N → W.heap[b]? = w0.heap[b]?) (fun g => decide (behindL g g = f)) (rowsOf f.length) := by
  refine ⟨fun w w₁ hk hf b hb => (hk b hb).trans (hf b hb), by omega, h1, fun j hj => chainB_ok (rows_chain _ (by omega) j hj).1, fun j hj => (rows_chain _ (by omega) j hj).2, ⟨_, _, Try.func42, by rfl, rfl⟩, fun S' c' k y w ad cc xs hS hx hSe hn hB hF => ?_⟩
  have hcell : ∀ {a : Addr} {v : Value}, w0.cell? a = some v → w.cell? a = some v := fun {a v} h => by
    have := cell_lt h
    rw [← h]
    simp only [World.cell?, hF a.block (by omega)]
  refine (rootsOf1_g (c := cc) (clo_w (P := Try.prog) (ty := wgL.tWg) (Wg := Wg) (C := C) (n := f.length) (LW := LW) (Rw := RwI) (S := S') (c := c') (k := k)) (some ad) xs hx hSe hn hB ⟨bf, 0, none⟩ (hS bf hbf) A f.length c f (hcell (cell_of_heap (k := 0) hbox rfl)) (fun k hk => ?_) (fun ad' e => ?_) (by omega))
  · obtain ⟨ad', e, h⟩ := hA k hk
    exact ⟨ad', e, hcell h⟩
  · obtain ⟨ad2, e2, h2⟩ := hA 0 (by omega)
    rw [e] at e2
    cases e2
    have := cell_lt h2
    rw [block_of_add] at this
    exact hS _ (by omega)
end Go.Proofs.Ytkbfcaaihellfaa

/- AllWith's test, as mapsThat asks it. -/
namespace Go.Proofs.Ytkbfcaaihellfaa
open Go.Conc Go.ConcN Go.RowKit
open Go.ConcR (Payload)
set_option linter.unusedVariables false
set_option linter.unusedSectionVars false

/-- the maps that go with f, in order -/
def withL (f : List Int) : List (List Int) := thatL (fun g => decide (behindL f g ≠ [] ∧ behindL f g = behindL g f)) f.length
theorem tst_with {Wg C LW N bf : Nat} {A : Option Addr} {c : Nat} {f : List Int} {w0 : World} (h1 : 1 ≤ f.length) (h4 : f.length ≤ 4) (hN : w0.heap.size = N) (hbf : bf < N) (hbox : w0.heap[bf]? = some (.cells #[.slice A f.length c] 22)) (hA : RdA w0 A f) :
    Tst Wg C LW 46 f.length #[.pointer (some ⟨bf, 0, none⟩)] (fun b => b < N) (fun W => ∀ b, b < N → W.heap[b]? = w0.heap[b]?) (fun g => decide (behindL f g ≠ [] ∧ behindL f g = behindL g f)) (rowsOf f.length) := by
  refine ⟨fun w w₁ hk hf b hb => (hk b hb).trans (hf b hb), by omega, h1, fun j hj => chainB_ok (rows_chain _ (by omega) j hj).1, fun j hj => (rows_chain _ (by omega) j hj).2, ⟨_, _, Try.func46, by rfl, rfl⟩, fun S' c' k y w ad cc xs hS hx hSe hn hB hF => ?_⟩
  have hcell : ∀ {a : Addr} {v : Value}, w0.cell? a = some v → w.cell? a = some v := fun {a v} h => by
    have := cell_lt h
    rw [← h]
    simp only [World.cell?, hF a.block (by omega)]
  refine (allWith1_g (c := cc) (clo_w (P := Try.prog) (ty := wgL.tWg) (Wg := Wg) (C := C) (n := f.length) (LW := LW) (Rw := RwI) (S := S') (c := c') (k := k)) (some ad) xs hx hSe hn hB ⟨bf, 0, none⟩ (hS bf hbf) A c f (hcell (cell_of_heap (k := 0) hbox rfl)) (fun k hk => ?_) (fun ad' e => ?_) (by omega))
  · obtain ⟨ad', e, h⟩ := hA k hk
    exact ⟨ad', e, hcell h⟩
  · obtain ⟨ad2, e2, h2⟩ := hA 0 (by omega)
    rw [e] at e2
    cases e2
    have := cell_lt h2
    rw [block_of_add] at this
    exact hS _ (by omega)
end Go.Proofs.Ytkbfcaaihellfaa

/- What a goroutine alone knows of memory, some rows being shunned: the world in which they are emptied. RootsOf's test and AllWith's, as mapsThat asks them. -/
namespace Go.Proofs.Ytkbfcaaihellfaa
open Go.Conc Go.ConcN Go.RowKit
open Go.ConcR (Payload)
set_option linter.unusedVariables false
set_option linter.unusedSectionVars false

section
variable {Sb : Nat → Prop} {v v' v1 w w' W0 : World}
def emptied : Obj → Obj
  | .cells _ t f => .cells #[] t f
  | o => o
open Classical in
/-- the rows of Sb can be emptied -/
theorem pr_exists (h : ∀ r, Sb r → IsRow w r) : ∃ v, PR Sb v w := by
  refine ⟨{ w with heap := w.heap.mapIdx fun r o => if Sb r then emptied o else o }, by simp, fun r hr => ?_, fun r hr => ?_, rfl, rfl⟩
  · simp only [Array.getElem?_mapIdx, if_neg hr]
    cases w.heap[r]? <;> rfl
  · obtain ⟨c, t, f, e⟩ := h r hr
    refine ⟨c, t, f, e, ?_⟩
    simp only [Array.getElem?_mapIdx, if_pos hr, e]
    rfl
theorem PR.row (h : PR Sb v w) : ∀ r, Sb r → IsRow w r := fun r hr => by
  obtain ⟨c, t, f, e, _⟩ := h.poi r hr
  exact ⟨c, t, f, e⟩
theorem PR.nsize (h : PR Sb v w) {b : Nat} (hb : v.heap.size ≤ b) : ¬ Sb b := fun hs => by have := h.lt b hs; omega
theorem PR.alloc (h : PR Sb v w) (o : Obj) : PR Sb (v.alloc o) (w.alloc o) := h.push h.lt o

/-- .. and WHAT HAS NOT TURNED since the law began. -/
structure Inv (Sb : Nat → Prop) (W0 v w : World) : Prop where
  pr : PR Sb v w
  tape : w.tape = W0.tape
  os : v.os = W0.os
  output : v.output = W0.output
  size : W0.heap.size ≤ v.heap.size
  block : ∀ b, b < W0.heap.size → v.heap[b]? = W0.heap[b]?
  above : ∀ r, Sb r → W0.heap.size ≤ r
theorem Inv.start (w : World) : Inv (fun _ => False) w w w := ⟨⟨rfl, fun _ _ => rfl, fun _ h => h.elim, rfl, rfl⟩, rfl, rfl, rfl, Nat.le_refl _, fun _ _ => rfl, fun _ h => h.elim⟩
theorem Inv.below (h : Inv Sb W0 v w) : Below W0.heap.size W0 w :=
  ⟨h.pr.os.symm.trans h.os, h.tape, h.pr.output.symm.trans h.output, by rw [← h.pr.size]; exact h.size, fun b hb => ((h.pr.same b (fun hs => by have := h.above b hs; omega)).symm.trans (h.block b hb))⟩
theorem Inv.at (h : Inv Sb W0 v w) (d : Nat) : Inv Sb W0 v (w.at d) := ⟨h.pr.atr d, h.tape, h.os, h.output, h.size, h.block, h.above⟩
theorem Inv.alloc (h : Inv Sb W0 v w) (o : Obj) : Inv Sb W0 (v.alloc o) (w.alloc o) :=
  ⟨h.pr.alloc o, h.tape, h.os, h.output, by have := h.size; rw [alloc_size]; omega, fun b hb => (alloc_get (by have := h.size; omega)).trans (h.block b hb), h.above⟩
/-- a later world: what lay there lies there still, but for the shunned rows -/
structure Ltr (Sb : Nat → Prop) (v v' : World) : Prop where
  os : v'.os = v.os
  output : v'.output = v.output
  size : v.heap.size ≤ v'.heap.size
  block : ∀ b, b < v.heap.size → ¬ Sb b → v'.heap[b]? = v.heap[b]?
theorem Ltr.refl (v : World) : Ltr Sb v v := ⟨rfl, rfl, Nat.le_refl _, fun _ _ _ => rfl⟩
theorem ltr_of_below {τ : Nat → Question → Nat} {d : Nat} (h : Below v.heap.size (v.tp τ d) v') : Ltr Sb v v' := ⟨h.os, h.output, h.size, fun b hb _ => h.block b hb⟩
theorem ltr_alloc (v : World) (o : Obj) : Ltr Sb v (v.alloc o) := ⟨rfl, rfl, by rw [alloc_size]; omega, fun b hb _ => alloc_get hb⟩
theorem Inv.ltr (h : Inv Sb W0 v w) (l : Ltr Sb v v') (hp : PR Sb v' w') (ht : w'.tape = w.tape) : Inv Sb W0 v' w' :=
  ⟨hp, ht.trans h.tape, l.os.trans h.os, l.output.trans h.output, Nat.le_trans h.size l.size, fun b hb => (l.block b (by have := h.size; omega) (fun hs => by have := h.above b hs; omega)).trans (h.block b hb), h.above⟩
theorem Inv.ltrW (h : Inv Sb W0 v w) (l : Ltr Sb v v') {Wg : Nat} (hW : v.heap.size ≤ Wg) (hp : PR (Sw Sb Wg) v' w') (ht : w'.tape = w.tape) : Inv (Sw Sb Wg) W0 v' w' :=
  ⟨hp, ht.trans h.tape, l.os.trans h.os, l.output.trans h.output, Nat.le_trans h.size l.size, fun b hb => (l.block b (by have := h.size; omega) (fun hs => by have := h.above b hs; omega)).trans (h.block b hb), fun r hr => hr.elim (h.above r) fun e => by have := h.size; omega⟩
theorem rdA_ltr (hp : PR Sb v w) {A : Option Addr} {xs : List Int} (h : RdA v A xs) (l : Ltr Sb v v') : RdA v' A xs := fun k hk => by
  obtain ⟨ad, e, hc⟩ := h k hk
  refine ⟨ad, e, ?_⟩
  have h1 := (hp.cell_some hc).1
  have h2 := cell_lt hc
  rw [← hc]
  simp only [World.cell?, l.block _ h2 h1]
theorem rdA_true (hp : PR Sb v w) {A : Option Addr} {xs : List Int} (h : RdA v A xs) : RdA w A xs := fun k hk => by
  obtain ⟨ad, e, hc⟩ := h k hk
  exact ⟨ad, e, (hp.cell_some hc).2⟩
/-- a plain function's contract, a goroutine alone -/
theorem callsLA {Post : Value → World → Prop} {f : FuncId} (hf : plainF f = true) {args : Array Value} (hv : PR Sb v w) {Q : (Nat → Question → Nat) → Ending → World → Prop} {Res : Value → World → Prop}
    (h : ∀ τ, Calls Try.prog f args (v.tp τ 0) (Q τ)) (hq : ∀ τ e v', Q τ e v' → ∃ x, e = .returned x ∧ Res x v') :
    CallsT Try.prog (LA Try.prog Sb Post) f args () w (fun x _ w' => w'.tape = w.tape ∧ ∃ v', PR Sb v' w' ∧ Res x v') :=
  callsA plainP clo_la hf hv h fun τ e v' hQ => let ⟨x, e1, h1⟩ := hq τ e v' hQ; ⟨x, e1, fun w' hp _ ht => ⟨ht, v', hp, h1⟩⟩
end

section
variable {Sb : Nat → Prop} {Wg C LW N bf : Nat} {A : Option Addr} {c : Nat} {f : List Int} {w0 : World}
theorem fq_cell {w : World} (hN : w0.heap.size = N) (hF : ∀ b, b < N → ¬ Sb b → w.heap[b]? = w0.heap[b]?) {a : Addr} {v : Value} (hs : ¬ Sb a.block) (h : w0.cell? a = some v) : w.cell? a = some v := by
  have := cell_lt h
  rw [← h]
  simp only [World.cell?, hF a.block (by omega) hs]
theorem tst_rootsS (h1 : 1 ≤ f.length) (h4 : f.length ≤ 4) (hN : w0.heap.size = N) (hbf : bf < N) (hbS : ¬ Sb bf) (hbox : w0.heap[bf]? = some (.cells #[.slice A f.length c] 22)) (hA : RdA w0 A f) (hAS : ∀ ad, A = some ad → ¬ Sb ad.block) :
    Tst Wg C LW 42 f.length #[.pointer (some ⟨bf, 0, none⟩)] (fun b => b < N ∧ ¬ Sb b) (fun W => ∀ b, b < N → ¬ Sb b → W.heap[b]? = w0.heap[b]?) (fun g => decide (behindL g g = f)) (rowsOf f.length) := by
  refine ⟨fun w w₁ hk hf b hb hs => (hk b ⟨hb, hs⟩).trans (hf b hb hs), by omega, h1, fun j hj => chainB_ok (rows_chain _ (by omega) j hj).1, fun j hj => (rows_chain _ (by omega) j hj).2, ⟨_, _, Try.func42, by rfl, rfl⟩, fun S' c' k y w ad cc xs hS hx hSe hn hB hF => ?_⟩
  refine (rootsOf1_g (c := cc) (clo_w (P := Try.prog) (ty := wgL.tWg) (Wg := Wg) (C := C) (n := f.length) (LW := LW) (Rw := RwI) (S := S') (c := c') (k := k)) (some ad) xs hx hSe hn hB ⟨bf, 0, none⟩ (hS bf ⟨hbf, hbS⟩) A f.length c f (fq_cell hN hF hbS (cell_of_heap (k := 0) hbox rfl)) (fun k hk => ?_) (fun ad' e => ?_) (by omega))
  · obtain ⟨ad', e, h⟩ := hA k hk
    exact ⟨ad', e, fq_cell hN hF (by rw [block_of_add]; exact hAS ad' e) h⟩
  · obtain ⟨ad2, e2, h2⟩ := hA 0 (by omega)
    rw [e] at e2
    cases e2
    have := cell_lt h2
    rw [block_of_add] at this
    exact hS _ ⟨by omega, hAS ad' e⟩
theorem tst_withS (h1 : 1 ≤ f.length) (h4 : f.length ≤ 4) (hN : w0.heap.size = N) (hbf : bf < N) (hbS : ¬ Sb bf) (hbox : w0.heap[bf]? = some (.cells #[.slice A f.length c] 22)) (hA : RdA w0 A f) (hAS : ∀ ad, A = some ad → ¬ Sb ad.block) :
    Tst Wg C LW 46 f.length #[.pointer (some ⟨bf, 0, none⟩)] (fun b => b < N ∧ ¬ Sb b) (fun W => ∀ b, b < N → ¬ Sb b → W.heap[b]? = w0.heap[b]?) (fun g => decide (behindL f g ≠ [] ∧ behindL f g = behindL g f)) (rowsOf f.length) := by
  refine ⟨fun w w₁ hk hf b hb hs => (hk b ⟨hb, hs⟩).trans (hf b hb hs), by omega, h1, fun j hj => chainB_ok (rows_chain _ (by omega) j hj).1, fun j hj => (rows_chain _ (by omega) j hj).2, ⟨_, _, Try.func46, by rfl, rfl⟩, fun S' c' k y w ad cc xs hS hx hSe hn hB hF => ?_⟩
  refine (allWith1_g (c := cc) (clo_w (P := Try.prog) (ty := wgL.tWg) (Wg := Wg) (C := C) (n := f.length) (LW := LW) (Rw := RwI) (S := S') (c := c') (k := k)) (some ad) xs hx hSe hn hB ⟨bf, 0, none⟩ (hS bf ⟨hbf, hbS⟩) A c f (fq_cell hN hF hbS (cell_of_heap (k := 0) hbox rfl)) (fun k hk => ?_) (fun ad' e => ?_) (by omega))
  · obtain ⟨ad', e, h⟩ := hA k hk
    exact ⟨ad', e, fq_cell hN hF (by rw [block_of_add]; exact hAS ad' e) h⟩
  · obtain ⟨ad2, e2, h2⟩ := hA 0 (by omega)
    rw [e] at e2
    cases e2
    have := cell_lt h2
    rw [block_of_add] at this
    exact hS _ ⟨by omega, hAS ad' e⟩
end
end Go.Proofs.Ytkbfcaaihellfaa
