/- Steps on the way to the law; each part says what it proves. -/
import Derived.Test.YtkbfcaaihellfaaU18
import Derived.Test.YtkbfcaaihellfaaU5

set_option linter.unusedSimpArgs false

/- Walks in company: the deferred Done to its release. -/
namespace Go.Proofs.Ytkbfcaaihellfaa
open Go.Conc Go.ConcN Go.ConcN.Gen Go.RowKit Go.Conc.Lib Go.ConcR.Gen
open Go.ConcR (KK wgBlock WgAt stA smA rd wr mk Payload Aside2 DC0)
set_option linter.unusedVariables false
set_option linter.unusedSectionVars false

section
variable {P : Program} {main : Bool} {γ : Type} {R : γ → World → World → Prop} {D : γ → World → World → Array Event → γ → Prop} {T : γ → Goroutine → World → Prop}
variable {b : Frame} {a : Act} {k : List Item} {cs : List Frame} {y : γ} {w : World} {ops : Array Oper}
/-- A call, entered. -/
theorem t_into (hT : Clo P main R D T) {i : Nat} {rest : List Nat} {o : Oper} {f : FuncId} {fn : Func} {code : Code} {args : Array Operand} {ats : Array TypeId} (ho : ops[i]? = some o) (hw : Region.wanted o (yielded ops a.tmps) = true) (hk : b.kind ≠ .early) (hs : o.semAt b.roundOf a.eval = execOp a.eval o)
    (hop : o.op = .call { callee := .value (.func f), args, argTypes := ats }) (hf : P.funcs[f]? = some fn) (hname : (fn.name == "runtime.NumGoroutine") = false) (hb : fn.body = some code)
    (h : T y (G ((base f).atR { tmps := args.map a.eval ++ Array.replicate (fn.ntmps - (args.map a.eval).size) undef, defers := [] } [.code code]) (b.atR a (.inRegion ops (i :: rest) :: k) :: cs)) w) : T y (G (b.atR a (.inRegion ops (i :: rest) :: k)) cs) w := by
  have hb' : fn.body.isNone = false := by rw [hb]; rfl
  rw [← enter_atR _ hf hb] at h
  refine hT.ctl rfl (fun w => ?_) h
  rw [sG_enter ho hw hk hs (run_call_body hop hf hname hb')]
  have : listed P b.fn a o w = #[] := by unfold listed; rw [events_call_body hop hf hname hb']; exact seen_none P _
  rw [this]
end

section
variable [Payload] {L : WgLink} {P : Program} {Wg : Nat} {c : Frame} {cs : List Frame}
set_option maxRecDepth 100000 in
set_option maxHeartbeats 4000000 in
theorem toRel (H : WgLib P L) : ∃ gR g1 gD gD2 : Goroutine, gR.status = .running ∧ gD.status = .running ∧ (∀ w, stepG P false gR w = .go g1 w #[⟨.mark (.releaseMerge (stA Wg)), false, true⟩]) ∧ (∀ w, stepG P false gD w = .go gD2 w #[⟨.mark .disable, false, true⟩]) ∧
    (∀ {γ : Type} {R : γ → World → World → Prop} {D : γ → World → World → Array Event → γ → Prop} {T : γ → Goroutine → World → Prop} (hT : Clo P false R D T) (F : World → Prop) (hst : ∀ y w w₁, R y w w₁ → F w → F w₁) (hl : ∀ w, F w → WgLive L.tWg Wg w) (y : γ) (w : World), F w → (∀ w', F w' → T y gR w') →
      T y (G ((baseD L.done).atR ⟨#[.pointer (some ⟨Wg, 0, none⟩), undef, undef, undef], []⟩ [.code (body_done L)]) (c :: cs)) w) ∧
    (∀ {γ : Type} {R : γ → World → World → Prop} {D : γ → World → World → Array Event → γ → Prop} {T : γ → Goroutine → World → Prop} (hT : Clo P false R D T) (y : γ) (w : World), T y gD w → T y g1 w) ∧
    (∀ (C n Low k : Nat) (val : Value) (w : World), WgLive L.tWg Wg w ∧ Has C (k - 1) val w → Goes P false (RW L.tWg Wg C n Low (k - 1)) DC0 (fun g w => g = gR ∧ WgLive L.tWg Wg w ∧ Has C (k - 1) val w) 40 (G ((baseD L.done).atR ⟨#[.pointer (some ⟨Wg, 0, none⟩), undef, undef, undef], []⟩ [.code (body_done L)]) (c :: cs)) w) := by
  apply Exists.intro
  apply Exists.intro
  apply Exists.intro
  apply Exists.intro
  refine ⟨?_, ?_, ?_, ?_, ?_, ?_, ?_⟩
  rotate_left 4
  · intro γ R D T hT F hst hl y w hF hc
    lib_facts
    have hk1 : (baseD L.done).kind ≠ .early := by simp [baseD]
    have hk2 : (base L.add).kind ≠ .early := by simp [base]
    simp only [body_done, doneFn, Option.getD_some]
    refine t_region hT [0, 1] rfl ?_
    refine t_op hT rfl (by rfl) (by first | decide | assumption) (by first | rfl | (rw [hro]; rfl)) (fun _ hR K hK => ?_)
    replace hF := hst _ _ _ hR hF
    clear hR
    go_simp
    try (unfold stored; go_simp)
    try go_ints
    refine hK _ _ y (by rw [listed_nil (by simp [go_sem, *])]; exact hT.idle _ _) ?_
    clear hK K
    try walk_nrm
    refine t_into hT rfl (by rfl) hk1 (by rfl) rfl H.f_add (nm_add L) rfl ?_
    walk_nrmf addFn
    repeat (first | refine t_seq hT ?_ | refine t_block hT ?_ | refine t_skip hT ?_ | refine t_inBlock hT ?_ | refine t_rend hT ?_ | refine t_exit hT rfl ?_)
    refine t_cond hT (t := _) rfl ?_
    simp only [if_true, if_false, reduceIte, Bool.false_eq_true, *]
    repeat (first | refine t_seq hT ?_ | refine t_block hT ?_ | refine t_skip hT ?_ | refine t_inBlock hT ?_ | refine t_rend hT ?_ | refine t_exit hT rfl ?_)
    refine t_region hT [0, 1] rfl ?_
    refine t_op hT rfl (by rfl) (by first | decide | assumption) (by first | rfl | (rw [hro]; rfl)) (fun _ hR K hK => ?_)
    replace hF := hst _ _ _ hR hF
    clear hR
    go_simp
    try (unfold stored; go_simp)
    try go_ints
    refine hK _ _ y (by rw [listed_nil (by simp [go_sem, *])]; exact hT.idle _ _) ?_
    clear hK K
    try walk_nrm
    refine t_op hT rfl (by rfl) (by first | decide | assumption) (by first | rfl | (rw [hro]; rfl)) (fun _ hR K hK => ?_)
    replace hF := hst _ _ _ hR hF
    clear hR
    go_simp
    try (unfold stored; go_simp)
    try go_ints
    refine hK _ _ y (by rw [listed_nil (by simp [go_sem, *])]; exact hT.idle _ _) ?_
    clear hK K
    try walk_nrm
    repeat (first | refine t_seq hT ?_ | refine t_block hT ?_ | refine t_skip hT ?_ | refine t_inBlock hT ?_ | refine t_rend hT ?_ | refine t_exit hT rfl ?_)
    refine t_cond hT (t := _) rfl ?_
    simp only [if_true, if_false, reduceIte, Bool.false_eq_true, *]
    refine t_region hT [0, 1, 2] rfl ?_
    refine t_op hT rfl (by rfl) (by first | decide | assumption) (by first | rfl | (rw [hro]; rfl)) (fun _ hR K hK => ?_)
    replace hF := hst _ _ _ hR hF
    clear hR
    go_simp
    try (unfold stored; go_simp)
    try go_ints
    refine hK _ _ y (by rw [listed_nil (by simp [go_sem, *])]; exact hT.idle _ _) ?_
    clear hK K
    try walk_nrm
    refine t_op hT rfl (by rfl) (by first | decide | assumption) (by first | rfl | (rw [hro]; rfl)) (fun w₁ hR K hK => ?_)
    replace hF := hst _ _ _ hR hF
    clear hR
    have hcv := run_convert_to_unsafe (P := P) H.underlying_tWgP H.underlying_tUP H.room_tWg (WgLive.cell0 (hl _ hF)).choose_spec
    have hce := fun es => events_convert_to_unsafe (P := P) H.underlying_tWgP H.underlying_tUP H.room_tWg (WgLive.cell0 (hl _ hF)).choose_spec es
    go_simp
    refine hK _ _ y (by rw [listed_nil (by simp [go_sem, *])]; exact hT.idle _ _) ?_
    clear hK K hcv hce
    try walk_nrm
    exact hc _ hF
  case h.h.h.h.refine_1 => rfl
  case h.h.h.h.refine_3 =>
    intro w
    exact stepG_markAt .releaseMerge (by simp) rfl rfl (by simp [base]) rfl H.f_relMerge (x_relMerge_n L) (x_relMerge_b L) (x_relMerge_x L) (x_relMerge_f L) (by simp [Act.eval, stA])
  case h.h.h.h.refine_6 =>
    intro γ R D T hT y w hc
    refine t_rend (b := base L.add) hT ?_
    repeat (first | refine t_seq hT ?_ | refine t_block hT ?_ | refine t_skip hT ?_ | refine t_inBlock hT ?_ | refine t_rend hT ?_ | refine t_exit hT rfl ?_)
    refine t_region hT [0] rfl ?_
    exact hc
  case h.h.h.h.refine_7 =>
    intro C n Low k val w hK
    change Goes P false (RW L.tWg Wg C n Low (k - 1)) DC0 _ 40 (G ((baseD L.done).at _ _) _) w
    lib_facts
    simp only [body_done, doneFn, Option.getD_some]
    u_reg kn_rely hK
    u_op kn_rely hK
    u_in kn_rely hK
    refine goes_call rfl rfl (by k_ne) rfl H.f_add (nm_add L) rfl ⟨by u_nil, ?_⟩
    walk_nrmf addFn
    u_c stepG_seq kn_rely hK
    u_cond true kn_rely hK
    u_c stepG_seq kn_rely hK
    u_c stepG_seq kn_rely hK
    u_reg kn_rely hK
    u_op kn_rely hK
    u_op kn_rely hK
    u_c stepG_region_end kn_rely hK
    u_cond true kn_rely hK
    u_reg kn_rely hK
    u_op kn_rely hK
    u_conv H.underlying_tWgP H.room_tWg (WgLive.cell0 hK.1).choose_spec kn_rely hK
    exact Goes.stop (fun w₁ h₁ => ⟨rfl, kn_rely hK h₁⟩)
  case h.h.h.h.refine_2 => rfl
  case h.h.h.h.refine_4 =>
    intro w
    exact stepG_mark0 .disable (by simp) rfl rfl (by simp [base]) rfl H.f_disable (x_disable_n L) (x_disable_b L) (x_disable_x L) (x_disable_f L)
end

/-! ### following what the kit's walk says -/
/-- At the stop an event is listed: so a silent step is none. -/
theorem clo_follow {P : Program} {R0 : World → World → Prop} {D0 : World → World → Array Event → Prop} {Stop0 : Goroutine → World → Prop} (hr : ∀ w, R0 w w) (hs : ∀ g w, Stop0 g w → ∃ g' e, stepG P false g w = .go g' w #[e]) (Q : Prop) :
    Clo P false (fun _ w w₁ => w₁ = w) (fun (_ : Unit) _ _ es _ => es = #[]) (fun _ g w => ∀ m, Goes P false R0 D0 Stop0 m g w → Q) := by
  refine ⟨fun {_ g w w₁} h e => by subst e; exact h, fun {_ g w} _ h m hm => ?_, fun _ _ => rfl, fun _ _ => rfl⟩
  obtain ⟨g', w', es, _, h1, rfl, h3⟩ := h w rfl
  have stop : Stop0 g w → Q := fun h => by
    obtain ⟨g2, e, h2⟩ := hs g w h
    rw [h1] at h2
    cases h2
  cases m with
  | zero => exact stop (hm w (hr w))
  | succ m =>
    rcases hm with hm | ⟨_, hm⟩
    · exact stop (hm w (hr w))
    · have := hm w (hr w)
      rw [h1] at this
      exact h3 m this.2
theorem clo_any [Payload] {P : Program} {main : Bool} {ty : TypeId} {Wg : Nat} {S : Nat → Prop} (Stop : (Nat → Prop) → Goroutine → World → Prop) : Clo P main (RG ty Wg S) (DG main Wg S) (fun y g w => ∃ f, Way P main ty Wg S Stop f y.1 g w) :=
  ⟨fun {y _ _ _} h r => h.imp fun _ h => h.rely r, fun {y g w} hs h => by
    obtain ⟨M, L⟩ := y
    exact clo_way (L := L) hs fun w₁ r => by
      obtain ⟨g', w', es, y', h1, h2, h3⟩ := h w₁ r
      exact ⟨g', w', es, y', h1, h2, h3⟩, fun _ _ => dg_none, dg_draw⟩
theorem botW_fin : QuitsD Try.prog 1 0 (G botW []) := by
  refine QuitsD.ctl (g' := { G botW [] with status := .finished }) rfl (fun w => ?_) ⟨rfl, rfl⟩
  simp [G, stepG, unwind, botW, goexitEntry, Frame.catches]
  rfl
theorem quits58 (T : Array Value) : QuitsD Try.prog 2 0 (G { (baseD 58).at ⟨T, []⟩ [] with mode := .returning } [botW]) := by
  refine QuitsD.ctl (g' := G botW []) rfl (fun w => ?_) botW_fin
  have hr : Try.f58.results = #[] := by simp [Try.f58]
  simp [G, stepG, unwind, doReturn, results, Frame.at, baseD, botW, Try.func58, hr, seen_none, GStep.after, goexitEntry]

theorem outW_step (Wg : Nat) (T : Array Value) (w : World) : stepG Try.prog false (OutW (.pointer (some ⟨Wg, 0, none⟩)) T) w =
    .go (G ((baseD wgL.done).atR ⟨#[.pointer (some ⟨Wg, 0, none⟩), undef, undef, undef], []⟩ [.code (body_done wgL)]) [{ (baseD 58).at ⟨T, []⟩ [] with mode := .returning }, botW]) w #[] := by
  refine (stepG_unwind_enter (b := baseD 58) (a := ⟨T, _⟩) rfl wgLib.f_done rfl rfl).trans ?_
  simp only [doneFn, body_done]
  rfl

set_option maxHeartbeats 2000000 in
theorem doneBody [Payload] {c : Nat} (Wg C n LW k : Nat) (T : Array Value) (w : World) (hl : WgLive wgL.tWg Wg w) (hh : Has C (k - 1) (.chan (some c)) w) : ∃ m, Goes Try.prog false (RW wgL.tWg Wg C n LW (k - 1)) (DWs Wg no no C n k) (AtR0 Try.prog wgL.tWg Wg C n LW k (.chan (some c))) m
      (G ((baseD wgL.done).atR ⟨#[.pointer (some ⟨Wg, 0, none⟩), undef, undef, undef], []⟩ [.code (body_done wgL)]) [{ (baseD 58).at ⟨T, []⟩ [] with mode := .returning }, botW]) w :=
  ⟨_, doneN wgLib rfl (quits58 T) w ⟨hl, hh⟩⟩

theorem goes_stop {P : Program} {main : Bool} {R : World → World → Prop} {D : World → World → Array Event → Prop} {Stop Stop' : Goroutine → World → Prop} (h : ∀ g w, Stop g w → Stop' g w) (n : Nat) : ∀ (g : Goroutine) (w : World), Goes P main R D Stop n g w → Goes P main R D Stop' n g w := by
  induction n with
  | zero => exact fun g w hg w₁ r => h _ _ (hg w₁ r)
  | succ n ih =>
    intro g w hg
    rcases hg with hg | ⟨hs, hg⟩
    · exact .inl fun w₁ r => h _ _ (hg w₁ r)
    · refine .inr ⟨hs, fun w₁ r => ?_⟩
      have := hg w₁ r
      revert this
      generalize stepG P main g w₁ = s
      intro this
      cases s <;> first | exact ⟨this.1, ih _ _ this.2⟩ | exact this
set_option maxHeartbeats 4000000 in
/-- FROM THE CLOSE TO THE RELEASE. -/
theorem done_goes [Payload] {c : Nat} (Wg C n LW k : Nat) (T : Array Value) (w : World) (hl : WgLive wgL.tWg Wg w) (hh : Has C (k - 1) (.chan (some c)) w) :
    ∃ m, Goes Try.prog false (RW wgL.tWg Wg C n LW (k - 1)) DC0 (AtR0 Try.prog wgL.tWg Wg C n LW k (.chan (some c))) m (OutW (.pointer (some ⟨Wg, 0, none⟩)) T) w := by
  obtain ⟨gR, g1, gD, gD2, hsR, hsD, stR, stD, w1, w2, w7⟩ := toRel (Wg := Wg) (c := { (baseD 58).at ⟨T, []⟩ [] with mode := .returning }) (cs := [botW]) wgLib
  refine ⟨41, Goes.step rfl fun w0 h0 => ?_⟩
  rw [outW_step]
  refine ⟨⟨rfl, rfl⟩, goes_stop ?_ _ _ _ (w7 C n LW k (.chan (some c)) w0 (kn_rely ⟨hl, hh⟩ h0))⟩
  rintro g w3 ⟨hg, hl3, hh3⟩
  rw [hg]
  clear hg w7
  obtain ⟨m, hm⟩ := doneBody Wg C n LW k T w3 hl3 hh3
  have stopR : ∀ g w, AtR0 Try.prog wgL.tWg Wg C n LW k (.chan (some c)) g w → ∃ g' e, stepG Try.prog false g w = .go g' w #[e] := fun g w h => let ⟨_, _, g', h', _⟩ := h; ⟨g', _, h'⟩
  have hQ := clo_follow (P := Try.prog) (R0 := RW wgL.tWg Wg C n LW (k - 1)) (D0 := DWs Wg no no C n k) (Stop0 := AtR0 Try.prog wgL.tWg Wg C n LW k (.chan (some c))) RW.refl stopR
  refine w1 (hQ (AtR0 Try.prog wgL.tWg Wg C n LW k (.chan (some c)) gR w3)) (fun w => w = w3) (fun _ _ _ r h => r.trans h) (fun _ h => by rw [h]; exact hl3) () w3 rfl (fun w' e m hm => ?_) m hm
  subst e
  have hRD : ∀ m, Goes Try.prog false (RW wgL.tWg Wg C n LW (k - 1)) (DWs Wg no no C n k) (AtR0 Try.prog wgL.tWg Wg C n LW k (.chan (some c))) m gD w' → False := fun m hm => by
    have stop : AtR0 Try.prog wgL.tWg Wg C n LW k (.chan (some c)) gD w' → False := fun h => by
      obtain ⟨_, _, g', h', _⟩ := h
      rw [stD] at h'
      cases h'
    cases m with
    | zero => exact stop (hm w' (RW.refl _))
    | succ m =>
      rcases hm with hm | ⟨_, hm⟩
      · exact stop (hm w' (RW.refl _))
      · have := hm w' (RW.refl _)
        rw [stD] at this
        exact (this.1.2 ⟨.mark .disable, false, true⟩ (by simp)).2.1 rfl
  cases m with
  | zero => exact hm w' (RW.refl _)
  | succ m =>
    rcases hm with hm | ⟨_, hm⟩
    · exact hm w' (RW.refl _)
    · have := hm w' (RW.refl _)
      rw [stR] at this
      exact (w2 (hQ False) () w' (fun m hm => hRD m hm) m this.2).elim
end Go.Proofs.Ytkbfcaaihellfaa
