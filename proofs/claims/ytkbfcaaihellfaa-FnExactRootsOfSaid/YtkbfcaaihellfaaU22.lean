/- Steps on the way to the law; each part says what it proves. -/
import Derived.Test.YtkbfcaaihellfaaU21
import Derived.Test.YtkbfcaaihellfaaU7
import Derived.Test.YtkbfcaaihellfaaU8

set_option linter.unusedSimpArgs false

/- Walks in company: mapsThat receives the rows of one lane. -/
namespace Go.Proofs.Ytkbfcaaihellfaa
open Go.Conc Go.ConcN Go.ConcN.Gen Go.RowKit Go.Conc.Lib Go.ConcR.Gen
open Go.ConcR (KK wgBlock WgAt stA smA rd wr mk Payload Aside2 DC0)
set_option linter.unusedVariables false
set_option linter.unusedSectionVars false

theorem infoRow' : (Try.prog.info? 22).map (fun i => (i.zero, i.size, i.bytes)) = some (some (.slice none 0 0), 1, 24) := by kernel_rfl
theorem run_bs1 (w : World) (a : Option Addr) (n c : Nat) : (Instr.buildSlice 23 1 #[(0, .slice a n c)]).run Try.prog w = .ok (.slice (some ⟨w.heap.size, 0, none⟩) 1 1) (w.alloc (.cells #[.slice a n c] 22)) := by
  obtain ⟨i0, hi, hz0, hz1, hz2⟩ := info_parts infoRow'
  simp [Instr.buildSlice, run_underlying Try.underlying23, go_sem, hi, hz0, hz1, Instr.fill]
theorem evs_bs1 (w : World) (a : Option Addr) (n c : Nat) (es : Array Event) : (Instr.buildSlice 23 1 #[(0, .slice a n c)]).events Try.prog w es = es := by
  obtain ⟨i0, hi, hz0, hz1, hz2⟩ := info_parts infoRow'
  simp [Instr.buildSlice, run_underlying Try.underlying23, go_sem, hi, hz0, hz1, Instr.fill]
theorem served_eq {b : Frame} {a : Act} {k : List Item} {cs : List Frame} {ops : Array Oper} {i : Nat} {rest : List Nat} {o : Oper} (ho : ops[i]? = some o) (v : Value) : Go.Conc.served (G (b.atR a (.inRegion ops (i :: rest) :: k)) cs) v = G (b.atR (a.put o.dst v) (.inRegion ops rest :: k)) cs := by
  simp only [Go.Conc.served, G, Frame.finish_atR, ho]; rfl
theorem recv_of {b : Frame} {a : Act} {k : List Item} {cs : List Frame} {ops : Array Oper} {i : Nat} {rest : List Nat} {o : Oper} {c : Nat} {z : Value} {w : World} (ho : ops[i]? = some o) (hw : Region.wanted o (yielded ops a.tmps) = true) (hk : b.kind ≠ .early) (hs : o.semAt b.roundOf a.eval = execOp a.eval o)
    (hr : ∀ w, (execOp a.eval o).run Try.prog w = .ok (.comm #[rcase c z] true (.recv true)) w) (he : ∀ w, (execOp a.eval o).events Try.prog w #[] = #[]) : AtRecv Try.prog c (G (b.atR a (.inRegion ops (i :: rest) :: k)) cs) (G (b.atR a (.inRegion ops (i :: rest) :: k)) cs) z w :=
  ⟨rfl, rfl, fun _ => rfl, fun d => by
    rw [sG_comm ho hw hk hs (hr _)]
    have : listed Try.prog b.fn a o (w.at d) = #[] := by unfold listed; rw [he]; exact seen_none Try.prog _
    rw [this]⟩

/-- what stands in mapsThat's frame while it receives from lane i -/
def LiveI (Wg C nn i c : Nat) (v : Value) (a : Act) : Prop := a.defers = [] ∧ a.tmps.size = 45 ∧ a.tmps.getD 5 undef = .pointer (some ⟨Wg, 0, none⟩) ∧ a.tmps.getD 9 undef = v ∧ a.tmps.getD 28 undef = .slice (some ⟨C, 0, none⟩) nn nn ∧ a.tmps.getD 29 undef = .int .i64 nn ∧ a.tmps.getD 30 undef = .int .i64 i ∧ a.tmps.getD 34 undef = .chan (some c)

section
variable {Wg C nn i c : Nat} {Fq : World → Prop} {S : Nat → Prop} {L : List (Nat × List (List Int))} {cs : List Frame} {K : (Nat → Prop) → Goroutine → World → Prop}
set_option maxRecDepth 100000 in
set_option maxHeartbeats 4000000 in
theorem inner_g : ∀ (ls R : List (List Int)) (v : Value) (a : Act) (M : Nat → Prop) (w : World), LiveI Wg C nn i c v a → MR wgL.tWg Wg C Fq S M L w → AllR M v R w → R.length + ls.length ≤ 1000000 →
    (∀ a' v' M' w', LiveI Wg C nn i c v' a' → MR wgL.tWg Wg C Fq S M' L w' → AllR M' v' (R ++ ls) w' → K M' (G ((base 41).atR (a'.put (some 35) (recvd true (.slice none 0 0) false)) (.inRegion r41.1 [1] :: .code r41.2 :: i41)) cs) w') →
    TM Try.prog true wgL.tWg Wg S (RStop Try.prog wgL.tWg Wg RwI S c ls K) (M, []) (G ((base 41).atR a (.code q41.1 :: i41)) cs) w
  | ls, R, v, a, M, w, hLv, hM, hA, hl, hend => by
    have IH := fun (l : List (List Int)) (x : List Int) (e : ls = x :: l) => inner_g l
    have hT := clo_m (P := Try.prog) (main := true) (ty := wgL.tWg) (Wg := Wg) (S := S) (Stop := RStop Try.prog wgL.tWg Wg RwI S c ls K)
    obtain ⟨tmps, ds⟩ := a
    have hLv0 := hLv
    obtain ⟨rfl, hsz, h5, h9, h28, h29, h30, h34⟩ := hLv
    obtain ⟨J, rfl⟩ : ∃ J : Nat → Value, tmps = #[J 0, J 1, J 2, J 3, J 4, J 5, J 6, J 7, J 8, J 9, J 10, J 11, J 12, J 13, J 14, J 15, J 16, J 17, J 18, J 19, J 20, J 21, J 22, J 23, J 24, J 25, J 26, J 27, J 28, J 29, J 30, J 31, J 32, J 33, J 34, J 35, J 36, J 37, J 38, J 39, J 40, J 41, J 42, J 43, J 44] := ⟨fun i => tmps.getD i undef, (lit tmps).trans (by rw [hsz]; rfl)⟩
    change J 5 = _ at h5
    change J 9 = _ at h9
    change J 28 = _ at h28
    change J 29 = _ at h29
    change J 30 = _ at h30
    change J 34 = _ at h34
    simp only [h5, h9, h28, h29, h30, h34]
    clear hsz h5 h9 h28 h29 h30
    have hk : (base 41).kind ≠ .early := base_kind _
    have hro : (base 41).roundOf = none := rfl
    simp only [r41, q41, p41, c41, Try.f41] at hend IH ⊢
    have hF : MR wgL.tWg Wg C Fq S M L w ∧ AllR M v R w := ⟨hM, hA⟩
    clear hM hA
    repeat (first | refine t_seq hT ?_ | refine t_block hT ?_ | refine t_skip hT ?_ | refine t_inBlock hT ?_ | refine t_rend hT ?_ | refine t_exit hT rfl ?_)
    refine t_region hT [0, 1] rfl ?_
    refine tm_stop fun w₁ hR => ?_
    replace hF := And.intro (hF.1.rely hR) (hF.2.heap (M' := M) (fun b hb => hR.keep b (.inl hb)) (fun _ h => h))
    clear hR hT
    cases ls with
    | nil =>
      refine ⟨_, .slice none 0 0, fun w₂ hR => ⟨recv_of rfl (by rfl) hk (by rfl) (fun w => ?_) (fun w => ?_), ?_⟩⟩
      · simp [go_sem, rcase]
      · simp [go_sem]
      · rw [served_eq rfl]
        replace hF := And.intro (hF.1.rely hR) (hF.2.heap (M' := M) (fun b hb => hR.keep b (.inl hb)) (fun _ h => h))
        refine hend _ v M w₂ ?_ hF.1 (by rw [List.append_nil]; exact hF.2)
        exact ⟨rfl, rfl, rfl, rfl, rfl, rfl, rfl, rfl⟩
    | cons x l =>
      refine ⟨_, .slice none 0 0, fun w₂ hR => ⟨recv_of rfl (by rfl) hk (by rfl) (fun w => ?_) (fun w => ?_), fun r o u w' hnr hu ho hk' hsz hl' => ?_⟩⟩
      · simp [go_sem, rcase]
      · simp [go_sem]
      · rw [served_eq rfl]
        replace hF := And.intro (hF.1.rely hR) (hF.2.heap (M' := M) (fun b hb => hR.keep b (.inl hb)) (fun _ h => h))
        clear hR
        have hT := clo_m (P := Try.prog) (main := true) (ty := wgL.tWg) (Wg := Wg) (S := S) (Stop := RStop Try.prog wgL.tWg Wg RwI S c l K)
        obtain ⟨M1, hM1⟩ : ∃ M1 : Nat → Prop, M1 = fun b => M b ∨ b = r := ⟨_, rfl⟩
        have hmr : M1 r := by rw [hM1]; exact .inr rfl
        change TM Try.prog true wgL.tWg Wg S (RStop Try.prog wgL.tWg Wg RwI S c l K) (fun b => M b ∨ b = r, []) (G ((base 41).atR _ _) _) w'
        rw [← hM1]
        have hne : v.ownBlock ≠ some r := fun e => by obtain ⟨xs, _, h2, _⟩ := hF.2; exact hnr (.inl (h2 r e))
        obtain ⟨cu, rfl, hu2⟩ := hu
        have hu : RwI x r o (.slice (some ⟨r, 0, none⟩) x.length cu) := ⟨cu, rfl, hu2⟩
        have hF' : MR wgL.tWg Wg C Fq S M1 L w' ∧ AllR M1 v R w' ∧ w'.heap[r]? = some o := by
          rw [hM1]
          exact ⟨hF.1.row hnr ho hk' hsz hl', hF.2.heap (fun b hb => hk' b (.inl hb)) (fun _ h => .inl h), ho⟩
        replace hF := hF'
        clear hF' hnr hk' hsz hl' ho hM1
        simp only [recvd, if_true]
        walk_nrm
        refine t_op hT rfl (by rfl) (by first | decide | assumption) (by first | rfl | (rw [hro]; rfl)) (fun _ hR K hK => ?_)
        replace hF := And.intro (hF.1.rely hR) (And.intro (hF.2.1.heap (fun b hb => hR.keep b (.inl hb)) (fun _ h => h)) ((hR.keep r (.inl hmr)).trans hF.2.2))
        clear hR
        go_simp
        try (unfold stored; go_simp)
        try go_ints
        refine hK _ _ (M1, []) (by rw [listed_nil (by simp [go_sem, *])]; exact hT.idle _ _) ?_
        clear hK K
        try walk_nrm
        repeat (first | refine t_seq hT ?_ | refine t_block hT ?_ | refine t_skip hT ?_ | refine t_inBlock hT ?_ | refine t_rend hT ?_ | refine t_exit hT rfl ?_)
        refine t_cond hT (t := _) rfl ?_
        simp only [if_true, if_false, reduceIte, Bool.false_eq_true, *]
        repeat (first | refine t_seq hT ?_ | refine t_block hT ?_ | refine t_skip hT ?_ | refine t_inBlock hT ?_ | refine t_rend hT ?_ | refine t_exit hT rfl ?_)
        refine t_region hT [0, 1] rfl ?_
        refine t_op hT rfl (by rfl) (by first | decide | assumption) (by first | rfl | (rw [hro]; rfl)) (fun _ hR K hK => ?_)
        replace hF := And.intro (hF.1.rely hR) (And.intro (hF.2.1.heap (fun b hb => hR.keep b (.inl hb)) (fun _ h => h)) ((hR.keep r (.inl hmr)).trans hF.2.2))
        clear hR
        go_simp
        try (unfold stored; go_simp)
        try go_ints
        refine hK _ _ (M1, []) (by rw [listed_nil (by simp [go_sem, *])]; exact hT.idle _ _) ?_
        clear hK K
        try walk_nrm
        refine t_op hT rfl (by rfl) (by first | decide | assumption) (by first | rfl | (rw [hro]; rfl)) (fun _ hR K hK => ?_)
        replace hF := And.intro (hF.1.rely hR) (And.intro (hF.2.1.heap (fun b hb => hR.keep b (.inl hb)) (fun _ h => h)) ((hR.keep r (.inl hmr)).trans hF.2.2))
        clear hR
        go_simp
        try (unfold stored; go_simp)
        try go_ints
        refine hK _ _ (M1, []) (by rw [listed_nil (by simp [go_sem, *])]; exact hT.idle _ _) ?_
        clear hK K
        try walk_nrm
        repeat (first | refine t_seq hT ?_ | refine t_block hT ?_ | refine t_skip hT ?_ | refine t_inBlock hT ?_ | refine t_rend hT ?_ | refine t_exit hT rfl ?_)
        refine t_region hT [0, 1, 2, 3, 4] rfl ?_
        refine t_op hT rfl (by rfl) (by first | decide | assumption) (by first | rfl | (rw [hro]; rfl)) (fun _ hR K hK => ?_)
        replace hF := And.intro (hF.1.rely hR) (And.intro (hF.2.1.heap (fun b hb => hR.keep b (.inl hb)) (fun _ h => h)) ((hR.keep r (.inl hmr)).trans hF.2.2))
        clear hR
        go_simp
        try (unfold stored; go_simp)
        try go_ints
        refine hK _ _ (M1, []) (by rw [listed_nil (by simp [go_sem, *])]; exact hT.idle _ _) ?_
        clear hK K
        try walk_nrm
        refine t_op hT rfl (by rfl) (by first | decide | assumption) (by first | rfl | (rw [hro]; rfl)) (fun _ hR K hK => ?_)
        replace hF := And.intro (hF.1.rely hR) (And.intro (hF.2.1.heap (fun b hb => hR.keep b (.inl hb)) (fun _ h => h)) ((hR.keep r (.inl hmr)).trans hF.2.2))
        clear hR
        go_simp
        try (unfold stored; go_simp)
        try go_ints
        refine hK _ _ (M1, []) (by rw [listed_nil (by simp [go_sem, *])]; exact hT.idle _ _) ?_
        clear hK K
        try walk_nrm
        refine t_op hT rfl (by rfl) (by first | decide | assumption) (by first | rfl | (rw [hro]; rfl)) (fun w₁ hR K hK => ?_)
        replace hF := And.intro (hF.1.rely hR) (And.intro (hF.2.1.heap (fun b hb => hR.keep b (.inl hb)) (fun _ h => h)) ((hR.keep r (.inl hmr)).trans hF.2.2))
        clear hR
        have hmk := run_bs1 w₁ (some ⟨r, 0, none⟩) x.length cu
        have hev := fun es => evs_bs1 w₁ (some ⟨r, 0, none⟩) x.length cu es
        go_simp
        have hbd := (gw_alloc (ty := wgL.tWg) (Wg := Wg) hF.1.bd (.cells #[.slice (some ⟨r, 0, none⟩) x.length cu] 22)).bd
        have h1 := hF.1.more (M' := more M1 w₁ (w₁.alloc (.cells #[.slice (some ⟨r, 0, none⟩) x.length cu] 22))) (fun b hb => hb.imp id (·.1)) hbd (fun b hb => alloc_get (hF.1.bd b (.inr hb))) (rg_alloc (ty := wgL.tWg) (Wg := Wg) hF.1.bd _).live
        have h2 := hF.2.1.heap (M' := more M1 w₁ (w₁.alloc (.cells #[.slice (some ⟨r, 0, none⟩) x.length cu] 22))) (w1 := w₁.alloc (.cells #[.slice (some ⟨r, 0, none⟩) x.length cu] 22)) (fun b hb => alloc_get (hF.1.bd b (.inl hb))) (fun _ h => .inl h)
        have h3 : (w₁.alloc (.cells #[.slice (some ⟨r, 0, none⟩) x.length cu] 22)).heap[r]? = some o := (alloc_get (hF.1.bd r (.inl hmr))).trans hF.2.2
        have h4 : (w₁.alloc (.cells #[.slice (some ⟨r, 0, none⟩) x.length cu] 22)).heap[w₁.heap.size]? = some (.cells #[.slice (some ⟨r, 0, none⟩) x.length cu] 22) := Array.getElem?_push_size
        have hmr2 : more M1 w₁ (w₁.alloc (.cells #[.slice (some ⟨r, 0, none⟩) x.length cu] 22)) r := .inl hmr
        have hmN : more M1 w₁ (w₁.alloc (.cells #[.slice (some ⟨r, 0, none⟩) x.length cu] 22)) w₁.heap.size := .inr ⟨Nat.le_refl _, by rw [alloc_size]; omega⟩
        refine hK _ _ _ (by rw [listed_nil (by simp [go_sem, *])]; exact dg_alloc _) ?_
        clear hK K hmk hev hbd hmr
        try walk_nrm
        generalize w₁.heap.size = N at *
        generalize w₁.alloc (.cells #[.slice (some ⟨r, 0, none⟩) x.length cu] 22) = W1 at *
        generalize more M1 w₁ W1 = M2 at *
        replace hF := And.intro h1 (And.intro h2 (And.intro h3 h4))
        clear h1 h2 h3 h4
        refine t_op hT rfl (by rfl) (by first | decide | assumption) (by first | rfl | (rw [hro]; rfl)) (fun w₁ hR K hK => ?_)
        replace hF := And.intro (hF.1.rely hR) (And.intro (hF.2.1.heap (fun b hb => hR.keep b (.inl hb)) (fun _ h => h)) (And.intro ((hR.keep r (.inl hmr2)).trans hF.2.2.1) ((hR.keep N (.inl hmN)).trans hF.2.2.2)))
        clear hR
        obtain ⟨xs, hown, hbN, hrows⟩ := hF.2.1
        obtain ⟨i0, hi, hz0, hz1, hz2⟩ := info_parts infoRow'
        refine append_g (main := true) (Wg := Wg) (S := S) (M2, []) rfl Try.underlying23 hi hz0 hz1 hz2 (by decide) rfl (v := v) (n := R.length) (xs := xs) (news := [.slice (some ⟨r, 0, none⟩) x.length cu]) (ad := ⟨N, 0, none⟩) (c2 := 1) rfl rfl hown hbN (fun j u hj => ?_) (fun u hu => ?_) (.inl hmN) (by simp at hl ⊢; omega) (fn := (base 41).fn) (fun v' w' y' ey hdg hown' hblk hgr => ?_)
        · rcases j with _ | j
          · simp at hj; subst hj; exact cell_of_heap hF.2.2.2 rfl
          · simp at hj
        · simp at hu; subst hu; rfl
        have hxl : xs.length = R.length := by have := hown.1; simpa using this
        have hWn : some Wg ≠ v.ownBlock := fun e => by
          obtain ⟨_, h2⟩ := hown
          rcases h2 with ⟨h2, _⟩ | ⟨g, cap, cur, h2, _, h4, _⟩
          · rw [h2] at e; simp [Value.ownBlock] at e
          · rw [h2] at e
            have eg : g = Wg := by simpa [Value.ownBlock] using e.symm
            rw [eg] at h4
            obtain ⟨st, sm, hh⟩ := hF.1.live
            unfold WgAt at hh
            rw [h4] at hh
            simp [wgBlock] at hh
        have hsub : ∀ b, M2 b → y'.1 b := fun b hb => by rw [ey]; exact .inl hb
        have hA := AllR.snoc hbN hrows hxl (by simpa using hown') hblk hgr hsub hmr2 hF.2.2.1 hu hne
        have hM := hF.1.more (M' := y'.1) (w1 := w') (fun b hb => by rw [ey] at hb; exact hb.imp id (·.1)) (fun b hb => by
          rcases hb with hb | hb
          · rw [ey] at hb
            exact hb.elim (fun hb => Nat.lt_of_lt_of_le (hF.1.bd b (.inl hb)) hgr.size) (·.2)
          · exact Nat.lt_of_lt_of_le (hF.1.bd b (.inr hb)) hgr.size) (fun b hb => hgr.block b (hF.1.bd b (.inr hb)) fun e => hF.1.dj b (hbN b e.symm) hb) (fun hl => live_heap (hgr.block Wg (live_lt hl) hWn) hl)
        refine hK _ _ y' hdg ?_
        clear hK K hdg hown' hblk hgr hown hrows hbN hxl hWn hi hz0 hz1 hz2 hne hu hu2 hmr2 hmN hsub
        subst ey
        generalize more M2 w₁ w' = M3 at *
        replace hF := And.intro hM hA
        clear hM hA
        walk_nrm
        refine t_op hT rfl (by rfl) (by first | decide | assumption) (by first | rfl | (rw [hro]; rfl)) (fun _ hR K hK => ?_)
        replace hF := And.intro (hF.1.rely hR) (hF.2.heap (fun b hb => hR.keep b (.inl hb)) (fun _ h => h))
        clear hR
        go_simp
        try (unfold stored; go_simp)
        try go_ints
        refine hK _ _ (M3, []) (by rw [listed_nil (by simp [go_sem, *])]; exact hT.idle _ _) ?_
        clear hK K
        try walk_nrm
        repeat (first | refine t_seq hT ?_ | refine t_block hT ?_ | refine t_skip hT ?_ | refine t_inBlock hT ?_ | refine t_rend hT ?_ | refine t_exit hT rfl ?_)
        refine t_inLoop (c := q41.1) hT ?_
        refine IH l x rfl (R ++ [x]) v' _ M3 _ ?_ hF.1 hF.2 (by simp at hl ⊢; omega) (fun a' v' M' w' h1 h2 h3 => hend a' v' M' w' h1 h2 (by simpa using h3))
        exact ⟨rfl, rfl, rfl, rfl, rfl, rfl, rfl, rfl⟩
  termination_by ls => ls.length
  decreasing_by all_goals (subst_vars; simp)
end
end Go.Proofs.Ytkbfcaaihellfaa

/- Walks in company: mapsThat receives lane after lane. -/
namespace Go.Proofs.Ytkbfcaaihellfaa
open Go.Conc Go.ConcN Go.ConcN.Gen Go.RowKit Go.Conc.Lib Go.ConcR.Gen
open Go.ConcR (KK wgBlock WgAt stA smA rd wr mk Payload Aside2 DC0)
set_option linter.unusedVariables false
set_option linter.unusedSectionVars false

/-- at a lane's head -/
def LiveO (Wg C nn i : Nat) (v : Value) (a : Act) : Prop := a.defers = [] ∧ a.tmps.size = 45 ∧ a.tmps.getD 5 undef = .pointer (some ⟨Wg, 0, none⟩) ∧ a.tmps.getD 9 undef = v ∧ a.tmps.getD 28 undef = .slice (some ⟨C, 0, none⟩) nn nn ∧ a.tmps.getD 29 undef = .int .i64 nn ∧ a.tmps.getD 30 undef = .int .i64 i
section
variable {Wg C nn i c : Nat} {Fq : World → Prop} {S M : Nat → Prop} {L : List (Nat × List (List Int))} {cs : List Frame} {T : Gh → Goroutine → World → Prop} {R : List (List Int)} {v : Value} {a : Act} {w : World}
set_option maxHeartbeats 2000000 in
theorem to_inner (hT : Clo Try.prog true (RG wgL.tWg Wg S) (DG true Wg S) T) {ls : List (List Int)} (hL : L[i]? = some (c, ls)) (hi : i < nn) (hn7 : nn ≤ 7) (hLv : LiveO Wg C nn i v a) (hM : MR wgL.tWg Wg C Fq S M L w) (hA : AllR M v R w)
    (hc : ∀ a' w', LiveI Wg C nn i c v a' → MR wgL.tWg Wg C Fq S M L w' → AllR M v R w' → T (M, []) (G ((base 41).atR a' (.code q41.1 :: i41)) cs) w') :
    T (M, []) (G ((base 41).atR a (.code p41.1 :: [.inLoop p41.1, .inBlock 2, .code p41.2])) cs) w := by
  obtain ⟨tmps, ds⟩ := a
  obtain ⟨rfl, hsz, h5, h9, h28, h29, h30⟩ := hLv
  obtain ⟨J, rfl⟩ : ∃ J : Nat → Value, tmps = #[J 0, J 1, J 2, J 3, J 4, J 5, J 6, J 7, J 8, J 9, J 10, J 11, J 12, J 13, J 14, J 15, J 16, J 17, J 18, J 19, J 20, J 21, J 22, J 23, J 24, J 25, J 26, J 27, J 28, J 29, J 30, J 31, J 32, J 33, J 34, J 35, J 36, J 37, J 38, J 39, J 40, J 41, J 42, J 43, J 44] := ⟨fun i => tmps.getD i undef, (lit tmps).trans (by rw [hsz]; rfl)⟩
  change J 5 = _ at h5
  change J 9 = _ at h9
  change J 28 = _ at h28
  change J 29 = _ at h29
  change J 30 = _ at h30
  simp only [h5, h9, h28, h29, h30]
  clear hsz h5 h9 h28 h29
  have hk : (base 41).kind ≠ .early := base_kind _
  have hro : (base 41).roundOf = none := rfl
  have hd : decide ((i : Int) < (nn : Int)) = true := by simp; omega
  have hj0 : (0 : Int) ≤ (i : Int) := by omega
  have hj1 : (i : Int) < (nn : Int) := by omega
  have hF : MR wgL.tWg Wg C Fq S M L w ∧ AllR M v R w := ⟨hM, hA⟩
  clear hM hA
  have key : ∀ a' w', LiveI Wg C nn i c v a' → MR wgL.tWg Wg C Fq S M L w' → AllR M v R w' → T (M, []) (G ((base 41).atR a' (.code (.loop q41.1) :: [.inBlock 4, .inBlock 3, .code q41.2, .inLoop p41.1, .inBlock 2, .code p41.2])) cs) w' := fun a' w' h1 h2 h3 => t_loop1 hT (hc a' w' h1 h2 h3)
  clear hc
  generalize hP : [Item.inLoop p41.1, .inBlock 2, .code p41.2] = k2 at key ⊢
  clear hP
  simp only [q41, p41, c41, Try.f41] at key ⊢
  repeat (first | refine t_seq hT ?_ | refine t_block hT ?_ | refine t_skip hT ?_ | refine t_inBlock hT ?_ | refine t_rend hT ?_ | refine t_exit hT rfl ?_)
  refine t_region hT [0] rfl ?_
  refine t_op hT rfl (by rfl) (by first | decide | assumption) (by first | rfl | (rw [hro]; rfl)) (fun _ hR K hK => ?_)
  replace hF := And.intro (hF.1.rely hR) (hF.2.heap (fun b hb => hR.keep b (.inl hb)) (fun _ h => h))
  clear hR
  go_simp
  try (unfold stored; go_simp)
  try go_ints
  refine hK _ _ (M, []) (by rw [listed_nil (by simp [go_sem, *])]; exact hT.idle _ _) ?_
  clear hK K
  try walk_nrm
  repeat (first | refine t_seq hT ?_ | refine t_block hT ?_ | refine t_skip hT ?_ | refine t_inBlock hT ?_ | refine t_rend hT ?_ | refine t_exit hT rfl ?_)
  refine t_cond hT (t := _) rfl ?_
  simp only [if_true, if_false, reduceIte, Bool.false_eq_true, *]
  repeat (first | refine t_seq hT ?_ | refine t_block hT ?_ | refine t_skip hT ?_ | refine t_inBlock hT ?_ | refine t_rend hT ?_ | refine t_exit hT rfl ?_)
  refine t_region hT [0, 1, 2] rfl ?_
  refine t_op hT rfl (by rfl) (by first | decide | assumption) (by first | rfl | (rw [hro]; rfl)) (fun _ hR K hK => ?_)
  replace hF := And.intro (hF.1.rely hR) (hF.2.heap (fun b hb => hR.keep b (.inl hb)) (fun _ h => h))
  clear hR
  go_simp
  try (unfold stored; go_simp)
  try go_ints
  refine hK _ _ (M, []) (by rw [listed_nil (by simp [go_sem, *])]; exact hT.idle _ _) ?_
  clear hK K
  try walk_nrm
  refine t_op hT rfl (by rfl) (by first | decide | assumption) (by first | rfl | (rw [hro]; rfl)) (fun _ hR K hK => ?_)
  replace hF := And.intro (hF.1.rely hR) (hF.2.heap (fun b hb => hR.keep b (.inl hb)) (fun _ h => h))
  clear hR
  have hce := hF.1.has i c ls hL; unfold Has at hce
  go_simp
  try (unfold stored; go_simp)
  try go_ints
  refine hK _ _ (M, []) (dg_reads ?_) ?_
  · co_evs (exact evm_read (.inr hF.1.sC))
  clear hK K
  try walk_nrm
  clear hce
  refine t_op hT rfl (by rfl) (by first | decide | assumption) (by first | rfl | (rw [hro]; rfl)) (fun _ hR K hK => ?_)
  replace hF := And.intro (hF.1.rely hR) (hF.2.heap (fun b hb => hR.keep b (.inl hb)) (fun _ h => h))
  clear hR
  go_simp
  try (unfold stored; go_simp)
  try go_ints
  refine hK _ _ (M, []) (by rw [listed_nil (by simp [go_sem, *])]; exact hT.idle _ _) ?_
  clear hK K
  try walk_nrm
  repeat (first | refine t_seq hT ?_ | refine t_block hT ?_ | refine t_skip hT ?_ | refine t_inBlock hT ?_ | refine t_rend hT ?_ | refine t_exit hT rfl ?_)
  refine t_region hT [0] rfl ?_
  refine t_op hT rfl (by rfl) (by first | decide | assumption) (by first | rfl | (rw [hro]; rfl)) (fun _ hR K hK => ?_)
  replace hF := And.intro (hF.1.rely hR) (hF.2.heap (fun b hb => hR.keep b (.inl hb)) (fun _ h => h))
  clear hR
  go_simp
  try (unfold stored; go_simp)
  try go_ints
  refine hK _ _ (M, []) (by rw [listed_nil (by simp [go_sem, *])]; exact hT.idle _ _) ?_
  clear hK K
  try walk_nrm
  repeat (first | refine t_seq hT ?_ | refine t_block hT ?_ | refine t_skip hT ?_ | refine t_inBlock hT ?_ | refine t_rend hT ?_ | refine t_exit hT rfl ?_)
  refine key _ _ ?_ hF.1 hF.2
  exact ⟨rfl, rfl, rfl, rfl, rfl, rfl, rfl, rfl⟩
set_option maxHeartbeats 2000000 in
theorem next_lane (hT : Clo Try.prog true (RG wgL.tWg Wg S) (DG true Wg S) T) (hi : i < nn) (hn7 : nn ≤ 7) (hLv : LiveI Wg C nn i c v a) (hM : MR wgL.tWg Wg C Fq S M L w) (hA : AllR M v R w)
    (hc : ∀ a' w', LiveO Wg C nn (i + 1) v a' → MR wgL.tWg Wg C Fq S M L w' → AllR M v R w' → T (M, []) (G ((base 41).atR a' (.code p41.1 :: [.inLoop p41.1, .inBlock 2, .code p41.2])) cs) w') :
    T (M, []) (G ((base 41).atR (a.put (some 35) (recvd true (.slice none 0 0) false)) (.inRegion r41.1 [1] :: .code r41.2 :: i41)) cs) w := by
  obtain ⟨tmps, ds⟩ := a
  obtain ⟨rfl, hsz, h5, h9, h28, h29, h30, h34⟩ := hLv
  obtain ⟨J, rfl⟩ : ∃ J : Nat → Value, tmps = #[J 0, J 1, J 2, J 3, J 4, J 5, J 6, J 7, J 8, J 9, J 10, J 11, J 12, J 13, J 14, J 15, J 16, J 17, J 18, J 19, J 20, J 21, J 22, J 23, J 24, J 25, J 26, J 27, J 28, J 29, J 30, J 31, J 32, J 33, J 34, J 35, J 36, J 37, J 38, J 39, J 40, J 41, J 42, J 43, J 44] := ⟨fun i => tmps.getD i undef, (lit tmps).trans (by rw [hsz]; rfl)⟩
  change J 5 = _ at h5
  change J 9 = _ at h9
  change J 28 = _ at h28
  change J 29 = _ at h29
  change J 30 = _ at h30
  change J 34 = _ at h34
  simp only [h5, h9, h28, h29, h30, h34]
  clear hsz h5 h9 h28 h29 h30
  have hk : (base 41).kind ≠ .early := base_kind _
  have hro : (base 41).roundOf = none := rfl
  have hF : MR wgL.tWg Wg C Fq S M L w ∧ AllR M v R w := ⟨hM, hA⟩
  clear hM hA
  have key : ∀ a' w', LiveO Wg C nn (i + 1) v a' → MR wgL.tWg Wg C Fq S M L w' → AllR M v R w' → T (M, []) (G ((base 41).atR a' (.inLoop p41.1 :: [.inBlock 2, .code p41.2])) cs) w' := fun a' w' h1 h2 h3 => t_inLoop hT (hc a' w' h1 h2 h3)
  clear hc
  unfold i41
  generalize hP : Item.inLoop p41.1 :: [.inBlock 2, .code p41.2] = k2 at key ⊢
  clear hP
  have hsum : (i : Int) + 1 = ((i + 1 : Nat) : Int) := by omega
  generalize hI : ((i + 1 : Nat) : Int) = i1 at *
  have hb1 : -9223372036854775808 ≤ i1 := by omega
  have hb2 : i1 ≤ 9223372036854775807 := by omega
  simp only [r41, q41, p41, c41, Try.f41, recvd, if_true] at key ⊢
  walk_nrm
  refine t_op hT rfl (by rfl) (by first | decide | assumption) (by first | rfl | (rw [hro]; rfl)) (fun _ hR K hK => ?_)
  replace hF := And.intro (hF.1.rely hR) (hF.2.heap (fun b hb => hR.keep b (.inl hb)) (fun _ h => h))
  clear hR
  go_simp
  try (unfold stored; go_simp)
  try go_ints
  refine hK _ _ (M, []) (by rw [listed_nil (by simp [go_sem, *])]; exact hT.idle _ _) ?_
  clear hK K
  try walk_nrm
  repeat (first | refine t_seq hT ?_ | refine t_block hT ?_ | refine t_skip hT ?_ | refine t_inBlock hT ?_ | refine t_rend hT ?_ | refine t_exit hT rfl ?_)
  refine t_cond hT (t := _) rfl ?_
  simp only [if_true, if_false, reduceIte, Bool.false_eq_true, *]
  repeat (first | refine t_seq hT ?_ | refine t_block hT ?_ | refine t_skip hT ?_ | refine t_inBlock hT ?_ | refine t_rend hT ?_ | refine t_exit hT rfl ?_)
  refine t_region hT [0, 1] rfl ?_
  refine t_op hT rfl (by rfl) (by first | decide | assumption) (by first | rfl | (rw [hro]; rfl)) (fun _ hR K hK => ?_)
  replace hF := And.intro (hF.1.rely hR) (hF.2.heap (fun b hb => hR.keep b (.inl hb)) (fun _ h => h))
  clear hR
  go_simp
  try (unfold stored; go_simp)
  try go_ints
  refine hK _ _ (M, []) (by rw [listed_nil (by simp [go_sem, *])]; exact hT.idle _ _) ?_
  clear hK K
  try walk_nrm
  refine t_op hT rfl (by rfl) (by first | decide | assumption) (by first | rfl | (rw [hro]; rfl)) (fun _ hR K hK => ?_)
  replace hF := And.intro (hF.1.rely hR) (hF.2.heap (fun b hb => hR.keep b (.inl hb)) (fun _ h => h))
  clear hR
  go_simp
  try (unfold stored; go_simp)
  try go_ints
  refine hK _ _ (M, []) (by rw [listed_nil (by simp [go_sem, *])]; exact hT.idle _ _) ?_
  clear hK K
  try walk_nrm
  repeat (first | refine t_seq hT ?_ | refine t_block hT ?_ | refine t_skip hT ?_ | refine t_inBlock hT ?_ | refine t_rend hT ?_ | refine t_exit hT rfl ?_)
  refine key _ _ ?_ hF.1 hF.2
  exact ⟨rfl, rfl, rfl, rfl, rfl, rfl, congrArg (Value.int .i64) hI.symm⟩
/-- behind the end of lane i -/
theorem outer_g {Door : (Nat → Prop) → Goroutine → World → Prop} {All : List (List Int)} (hn7 : nn ≤ 7) (hlen : L.length = nn) (hAll : All.length ≤ 1000000)
    (hdoor : ∀ c a' v' M' w', LiveI Wg C nn (nn - 1) c v' a' → MR wgL.tWg Wg C Fq S M' L w' → AllR M' v' All w' → Door M' (G ((base 41).atR (a'.put (some 35) (recvd true (.slice none 0 0) false)) (.inRegion r41.1 [1] :: .code r41.2 :: i41)) cs) w') :
    ∀ (rest : List (Nat × List (List Int))) (i c : Nat) (R : List (List Int)) (v : Value) (a : Act) (M : Nat → Prop) (w : World), i < nn → L.drop (i + 1) = rest → LiveI Wg C nn i c v a → MR wgL.tWg Wg C Fq S M L w → AllR M v R w → R ++ (rest.map (·.2)).flatten = All →
      MRg Try.prog wgL.tWg Wg RwI S Door rest M (G ((base 41).atR (a.put (some 35) (recvd true (.slice none 0 0) false)) (.inRegion r41.1 [1] :: .code r41.2 :: i41)) cs) w
  | [], i, c, R, v, a, M, w, hi, hr, hLv, hM, hA, hR => by
    have e : i = nn - 1 := by have := List.drop_eq_nil_iff.1 hr; omega
    subst e
    simp at hR
    subst hR
    exact hdoor c a v M w hLv hM hA
  | (c', ls) :: rest, i, c, R, v, a, M, w, hi, hr, hLv, hM, hA, hR => by
    have hi1 : i + 1 < nn := by
      have : (L.drop (i + 1)).length = rest.length + 1 := by rw [hr]; rfl
      rw [List.length_drop] at this
      omega
    have hL : L[i + 1]? = some (c', ls) := by
      have : (L.drop (i + 1))[0]? = some (c', ls) := by rw [hr]; rfl
      rw [List.getElem?_drop] at this
      simpa using this
    have hr' : L.drop (i + 1 + 1) = rest := by
      have : (L.drop (i + 1)).drop 1 = rest := by rw [hr]; rfl
      rw [List.drop_drop] at this
      exact this
    have hT := clo_m (P := Try.prog) (main := true) (ty := wgL.tWg) (Wg := Wg) (S := S) (Stop := RStop Try.prog wgL.tWg Wg RwI S c' ls (fun M' g' w' => MRg Try.prog wgL.tWg Wg RwI S Door rest M' g' w'))
    refine next_lane hT hi hn7 hLv hM hA fun a1 w1 l1 m1 r1 => ?_
    refine to_inner hT hL hi1 hn7 l1 m1 r1 fun a2 w2 l2 m2 r2 => ?_
    refine inner_g ls R v a2 M w2 l2 m2 r2 ?_ fun a3 v3 M3 w3 l3 m3 r3 => ?_
    · rw [← hR] at hAll
      simp at hAll
      omega
    · exact outer_g hn7 hlen hAll hdoor rest (i + 1) c' (R ++ ls) v3 a3 M3 w3 hi1 hr' l3 m3 r3 (by rw [← hR]; simp)
end
end Go.Proofs.Ytkbfcaaihellfaa

/- Walks in company: mapsThat from its first go statement to the door of Wait. -/
namespace Go.Proofs.Ytkbfcaaihellfaa
open Go.Conc Go.ConcN Go.ConcN.Gen Go.RowKit Go.Conc.Lib Go.ConcR.Gen
open Go.ConcR (KK wgBlock WgAt stA smA rd wr mk Payload Aside2 DC0)
set_option linter.unusedVariables false
set_option linter.unusedSectionVars false

section
variable {Wg C LW bT bX fF nn : Nat} {cap : Array Value} {SF : Nat → Prop} {Fq : World → Prop} {S : Nat → Prop} {M : Nat → Prop} {w : World} {cs : List Frame} {p : List Int → Bool} {L : List (Nat × List (List Int))} {a : Act} {T : Gh → Goroutine → World → Prop}
set_option maxHeartbeats 2000000 in
/-- from the last go statement to the first lane -/
theorem to_lanes (hT : Clo Try.prog true (RG wgL.tWg Wg S) (DG true Wg S) T) (hFq : ∀ w w₁ : World, (∀ b, SF b → w₁.heap[b]? = w.heap[b]?) → Fq w → Fq w₁) (hn1 : 1 ≤ nn) (hn7 : nn ≤ 7) (hLv : Live41 Wg C bT bX nn (nn - 1) a) (hM : MI wgL.tWg Wg C bT bX fF nn cap SF Fq S (M, []) L w)
    (hc : ∀ a' w', LiveO Wg C nn 0 (.slice none 0 0) a' → MR wgL.tWg Wg C Fq S M L w' → T (M, []) (G ((base 41).atR a' (.code p41.1 :: [.inLoop p41.1, .inBlock 2, .code p41.2])) cs) w') :
    T (M, []) (G ((base 41).atR a (.inRegion o41.1 [] :: k41)) cs) w := by
  obtain ⟨tmps, ds⟩ := a
  obtain ⟨rfl, hsz, h2, h3, h5, h6, h16, h17⟩ := hLv
  obtain ⟨J, rfl⟩ : ∃ J : Nat → Value, tmps = #[J 0, J 1, J 2, J 3, J 4, J 5, J 6, J 7, J 8, J 9, J 10, J 11, J 12, J 13, J 14, J 15, J 16, J 17, J 18, J 19, J 20, J 21, J 22, J 23, J 24, J 25, J 26, J 27, J 28, J 29, J 30, J 31, J 32, J 33, J 34, J 35, J 36, J 37, J 38, J 39, J 40, J 41, J 42, J 43, J 44] := ⟨fun i => tmps.getD i undef, (lit tmps).trans (by rw [hsz]; rfl)⟩
  change J 2 = _ at h2
  change J 3 = _ at h3
  change J 5 = _ at h5
  change J 6 = _ at h6
  change J 16 = _ at h16
  change J 17 = _ at h17
  simp only [h2, h3, h5, h6, h16, h17]
  clear hsz h2 h3 h5 h6 h16
  have hk : (base 41).kind ≠ .early := base_kind _
  have hro : (base 41).roundOf = none := rfl
  have hF := hM
  clear hM
  have key : ∀ a' w', LiveO Wg C nn 0 (.slice none 0 0) a' → MR wgL.tWg Wg C Fq S M L w' → T (M, []) (G ((base 41).atR a' (.code (.loop p41.1) :: [.inBlock 2, .code p41.2])) cs) w' := fun a' w' h1 h2 => t_loop1 hT (hc a' w' h1 h2)
  clear hc
  have hsum : ((nn - 1 : Nat) : Int) + 1 = (nn : Int) := by omega
  generalize ((nn - 1 : Nat) : Int) = jj at *
  have hb1 : -9223372036854775808 ≤ (nn : Int) := by omega
  have hb2 : (nn : Int) ≤ 9223372036854775807 := by omega
  unfold k41
  have e41 : c41.2 = .seq _ (.seq (.seq _ (.block _ (.loop p41.1))) p41.2) := rfl
  rw [e41]
  generalize p41.1 = LBo at key ⊢
  generalize p41.2 = AF at key ⊢
  simp only [o41, c41, Try.f41]
  repeat (first | refine t_seq hT ?_ | refine t_block hT ?_ | refine t_skip hT ?_ | refine t_inBlock hT ?_ | refine t_rend hT ?_ | refine t_exit hT rfl ?_)
  refine t_region hT [0, 1] rfl ?_
  refine t_op hT rfl (by rfl) (by first | decide | assumption) (by first | rfl | (rw [hro]; rfl)) (fun _ hR K hK => ?_)
  replace hF := hF.rely hFq hR
  clear hR
  go_simp
  try (unfold stored; go_simp)
  try go_ints
  refine hK _ _ (M, []) (by rw [listed_nil (by simp [go_sem, *])]; exact hT.idle _ _) ?_
  clear hK K
  try walk_nrm
  refine t_op hT rfl (by rfl) (by first | decide | assumption) (by first | rfl | (rw [hro]; rfl)) (fun _ hR K hK => ?_)
  replace hF := hF.rely hFq hR
  clear hR
  go_simp
  try (unfold stored; go_simp)
  try go_ints
  refine hK _ _ (M, []) (by rw [listed_nil (by simp [go_sem, *])]; exact hT.idle _ _) ?_
  clear hK K
  try walk_nrm
  repeat (first | refine t_seq hT ?_ | refine t_block hT ?_ | refine t_skip hT ?_ | refine t_inBlock hT ?_ | refine t_rend hT ?_ | refine t_exit hT rfl ?_)
  refine t_inLoop hT ?_
  repeat (first | refine t_seq hT ?_ | refine t_block hT ?_ | refine t_skip hT ?_ | refine t_inBlock hT ?_ | refine t_rend hT ?_ | refine t_exit hT rfl ?_)
  refine t_region hT [0] rfl ?_
  refine t_op hT rfl (by rfl) (by first | decide | assumption) (by first | rfl | (rw [hro]; rfl)) (fun _ hR K hK => ?_)
  replace hF := hF.rely hFq hR
  clear hR
  go_simp
  try (unfold stored; go_simp)
  try go_ints
  refine hK _ _ (M, []) (by rw [listed_nil (by simp [go_sem, *])]; exact hT.idle _ _) ?_
  clear hK K
  try walk_nrm
  repeat (first | refine t_seq hT ?_ | refine t_block hT ?_ | refine t_skip hT ?_ | refine t_inBlock hT ?_ | refine t_rend hT ?_ | refine t_exit hT rfl ?_)
  refine t_cond hT (t := _) rfl ?_
  simp only [if_true, if_false, reduceIte, Bool.false_eq_true, *]
  repeat (first | refine t_seq hT ?_ | refine t_block hT ?_ | refine t_skip hT ?_ | refine t_inBlock hT ?_ | refine t_rend hT ?_ | refine t_exit hT rfl ?_)
  refine t_region hT [0] rfl ?_
  refine t_op hT rfl (by rfl) (by first | decide | assumption) (by first | rfl | (rw [hro]; rfl)) (fun _ hR K hK => ?_)
  replace hF := hF.rely hFq hR
  clear hR
  go_simp
  try (unfold stored; go_simp)
  try go_ints
  refine hK _ _ (M, []) (by rw [listed_nil (by simp [go_sem, *])]; exact hT.idle _ _) ?_
  clear hK K
  try walk_nrm
  repeat (first | refine t_seq hT ?_ | refine t_block hT ?_ | refine t_skip hT ?_ | refine t_inBlock hT ?_ | refine t_rend hT ?_ | refine t_exit hT rfl ?_)
  refine t_region hT [0, 1, 2] rfl ?_
  refine t_op hT rfl (by rfl) (by first | decide | assumption) (by first | rfl | (rw [hro]; rfl)) (fun _ hR K hK => ?_)
  replace hF := hF.rely hFq hR
  clear hR
  go_simp
  try (unfold stored; go_simp)
  try go_ints
  refine hK _ _ (M, []) (by rw [listed_nil (by simp [go_sem, *])]; exact hT.idle _ _) ?_
  clear hK K
  try walk_nrm
  refine t_op hT rfl (by rfl) (by first | decide | assumption) (by first | rfl | (rw [hro]; rfl)) (fun _ hR K hK => ?_)
  replace hF := hF.rely hFq hR
  clear hR
  go_simp
  try (unfold stored; go_simp)
  try go_ints
  refine hK _ _ (M, []) (by rw [listed_nil (by simp [go_sem, *])]; exact hT.idle _ _) ?_
  clear hK K
  try walk_nrm
  refine t_op hT rfl (by rfl) (by first | decide | assumption) (by first | rfl | (rw [hro]; rfl)) (fun _ hR K hK => ?_)
  replace hF := hF.rely hFq hR
  clear hR
  go_simp
  try (unfold stored; go_simp)
  try go_ints
  refine hK _ _ (M, []) (by rw [listed_nil (by simp [go_sem, *])]; exact hT.idle _ _) ?_
  clear hK K
  try walk_nrm
  repeat (first | refine t_seq hT ?_ | refine t_block hT ?_ | refine t_skip hT ?_ | refine t_inBlock hT ?_ | refine t_rend hT ?_ | refine t_exit hT rfl ?_)
  refine key _ _ ?_ ⟨hF.bd, hF.sC, hF.mC, hF.live, hF.has, hF.dj, fun w w₁ hk hf => hFq w w₁ (fun b hb => hk b (hF.sf b hb).1) hf, hF.fq⟩
  exact ⟨rfl, rfl, rfl, rfl, rfl, rfl, rfl⟩
/-- TO THE DOOR. -/
theorem door41 {Door : (Nat → Prop) → Goroutine → World → Prop} {All : List (List Int)} (hFq : ∀ w w₁ : World, (∀ b, SF b → w₁.heap[b]? = w.heap[b]?) → Fq w → Fq w₁) (hn1 : 1 ≤ nn) (hn7 : nn ≤ 7) (hlen : L.length = nn) (hAll : All.length ≤ 1000000) (hE : (L.map (·.2)).flatten = All)
    (hLv : Live41 Wg C bT bX nn (nn - 1) a) (hM : MI wgL.tWg Wg C bT bX fF nn cap SF Fq S (M, []) L w)
    (hdoor : ∀ c a' v' M' w', LiveI Wg C nn (nn - 1) c v' a' → MR wgL.tWg Wg C Fq S M' L w' → AllR M' v' All w' → Door M' (G ((base 41).atR (a'.put (some 35) (recvd true (.slice none 0 0) false)) (.inRegion r41.1 [1] :: .code r41.2 :: i41)) cs) w') :
    MRg Try.prog wgL.tWg Wg RwI S Door L M (G ((base 41).atR a (.inRegion o41.1 [] :: k41)) cs) w := by
  cases L with
  | nil => simp at hlen; omega
  | cons x rest =>
    obtain ⟨c, ls⟩ := x
    have hT := clo_m (P := Try.prog) (main := true) (ty := wgL.tWg) (Wg := Wg) (S := S) (Stop := RStop Try.prog wgL.tWg Wg RwI S c ls (fun M' g' w' => MRg Try.prog wgL.tWg Wg RwI S Door rest M' g' w'))
    refine to_lanes hT hFq hn1 hn7 hLv hM fun a1 w1 l1 m1 => ?_
    refine to_inner hT (i := 0) (c := c) (ls := ls) rfl hn1 hn7 l1 m1 AllR.nil fun a2 w2 l2 m2 r2 => ?_
    refine inner_g ls [] (.slice none 0 0) a2 M w2 l2 m2 r2 ?_ fun a3 v3 M3 w3 l3 m3 r3 => ?_
    · rw [← hE] at hAll
      simp at hAll ⊢
      omega
    · exact outer_g hn7 hlen hAll hdoor rest 0 c _ v3 a3 M3 w3 hn1 rfl l3 m3 r3 (by rw [← hE]; simp)
end
end Go.Proofs.Ytkbfcaaihellfaa

/- Walks in company: mapsThat from its row of lanes on: the script that the machine's theorem asks. -/
namespace Go.Proofs.Ytkbfcaaihellfaa
open Go.Conc Go.ConcN Go.ConcN.Gen Go.RowKit Go.Conc.Lib Go.ConcR.Gen
open Go.ConcR (KK wgBlock WgAt stA smA rd wr mk Payload Aside2 DC0)
set_option linter.unusedVariables false
set_option linter.unusedSectionVars false

/-- from the row of lanes on -/
noncomputable def s41 : Code := match (Try.f41).body with
  | some (.seq _ (.seq _ (.seq _ (.seq x _)))) => x
  | _ => .skip
def LiveS (Wg C bT bX nn : Nat) (a : Act) : Prop := a.defers = [] ∧ a.tmps.size = 45 ∧ a.tmps.getD 2 undef = .pointer (some ⟨bT, 0, none⟩) ∧ a.tmps.getD 3 undef = .pointer (some ⟨bX, 0, none⟩) ∧ a.tmps.getD 5 undef = .pointer (some ⟨Wg, 0, none⟩) ∧ a.tmps.getD 6 undef = .slice (some ⟨C, 0, none⟩) nn nn
section
variable {Wg C LW bT bX fF nn : Nat} {cap : Array Value} {SF : Nat → Prop} {Fq : World → Prop} {S : Nat → Prop} {M : Nat → Prop} {w : World} {cs : List Frame} {p : List Int → Bool} {a : Act} {T : Gh → Goroutine → World → Prop}
set_option maxHeartbeats 2000000 in
theorem to_loop (hT : Clo Try.prog true (RG wgL.tWg Wg S) (DG true Wg S) T) (hFq : ∀ w w₁ : World, (∀ b, SF b → w₁.heap[b]? = w.heap[b]?) → Fq w → Fq w₁) (hLv : LiveS Wg C bT bX nn a) (hM : MI wgL.tWg Wg C bT bX fF nn cap SF Fq S (M, []) [] w)
    (hc : ∀ a' w', Live41 Wg C bT bX nn 0 a' → MI wgL.tWg Wg C bT bX fF nn cap SF Fq S (M, []) [] w' → T (M, []) (G ((base 41).atR a' (.code c41.1 :: [.inLoop c41.1, .inBlock 0, .code c41.2])) cs) w') :
    T (M, []) (G ((base 41).atR a [.code s41, .code c41.2]) cs) w := by
  obtain ⟨tmps, ds⟩ := a
  obtain ⟨rfl, hsz, h2, h3, h5, h6⟩ := hLv
  obtain ⟨J, rfl⟩ : ∃ J : Nat → Value, tmps = #[J 0, J 1, J 2, J 3, J 4, J 5, J 6, J 7, J 8, J 9, J 10, J 11, J 12, J 13, J 14, J 15, J 16, J 17, J 18, J 19, J 20, J 21, J 22, J 23, J 24, J 25, J 26, J 27, J 28, J 29, J 30, J 31, J 32, J 33, J 34, J 35, J 36, J 37, J 38, J 39, J 40, J 41, J 42, J 43, J 44] := ⟨fun i => tmps.getD i undef, (lit tmps).trans (by rw [hsz]; rfl)⟩
  change J 2 = _ at h2
  change J 3 = _ at h3
  change J 5 = _ at h5
  change J 6 = _ at h6
  simp only [h2, h3, h5, h6]
  clear hsz h2 h3 h5
  have hk : (base 41).kind ≠ .early := base_kind _
  have hro : (base 41).roundOf = none := rfl
  have hF := hM
  clear hM
  have key : ∀ a' w', Live41 Wg C bT bX nn 0 a' → MI wgL.tWg Wg C bT bX fF nn cap SF Fq S (M, []) [] w' → T (M, []) (G ((base 41).atR a' (.code (.loop c41.1) :: [.inBlock 0, .code c41.2])) cs) w' := fun a' w' h1 h2 => t_loop1 hT (hc a' w' h1 h2)
  clear hc
  have e41 : s41 = .seq _ (.block _ (.loop c41.1)) := rfl
  rw [e41]
  generalize c41.1 = LB at key ⊢
  generalize c41.2 = AF at key ⊢
  try simp only [s41, Try.f41]
  repeat (first | refine t_seq hT ?_ | refine t_block hT ?_ | refine t_skip hT ?_ | refine t_inBlock hT ?_ | refine t_rend hT ?_ | refine t_exit hT rfl ?_)
  refine t_region hT [0, 1, 2] rfl ?_
  refine t_op hT rfl (by rfl) (by first | decide | assumption) (by first | rfl | (rw [hro]; rfl)) (fun _ hR K hK => ?_)
  replace hF := hF.rely hFq hR
  clear hR
  go_simp
  try (unfold stored; go_simp)
  try go_ints
  refine hK _ _ (M, []) (by rw [listed_nil (by simp [go_sem, *])]; exact hT.idle _ _) ?_
  clear hK K
  try walk_nrm
  refine t_op hT rfl (by rfl) (by first | decide | assumption) (by first | rfl | (rw [hro]; rfl)) (fun _ hR K hK => ?_)
  replace hF := hF.rely hFq hR
  clear hR
  go_simp
  try (unfold stored; go_simp)
  try go_ints
  refine hK _ _ (M, []) (by rw [listed_nil (by simp [go_sem, *])]; exact hT.idle _ _) ?_
  clear hK K
  try walk_nrm
  refine t_op hT rfl (by rfl) (by first | decide | assumption) (by first | rfl | (rw [hro]; rfl)) (fun _ hR K hK => ?_)
  replace hF := hF.rely hFq hR
  clear hR
  go_simp
  try (unfold stored; go_simp)
  try go_ints
  refine hK _ _ (M, []) (by rw [listed_nil (by simp [go_sem, *])]; exact hT.idle _ _) ?_
  clear hK K
  try walk_nrm
  repeat (first | refine t_seq hT ?_ | refine t_block hT ?_ | refine t_skip hT ?_ | refine t_inBlock hT ?_ | refine t_rend hT ?_ | refine t_exit hT rfl ?_)
  refine key _ _ ?_ hF
  exact ⟨rfl, rfl, rfl, rfl, rfl, rfl, rfl, rfl⟩
/-- THE STARTER's SCRIPT. -/
theorem script41 {Rj : Nat → List (List Int)} (H : Tst Wg C LW fF nn cap SF Fq p Rj) {Dr : (Nat → Prop) → (Nat → Prop) → Goroutine → World → Prop} (hAll : ((rowsFrom p Rj 0 nn).flatten).length ≤ 1000000)
    (hLv : LiveS Wg C bT bX nn a) (hM : MI wgL.tWg Wg C bT bX fF nn cap SF Fq S (M, []) [] w)
    (hdoor : ∀ L S c a' v' M' w', LiveI Wg C nn (nn - 1) c v' a' → MR wgL.tWg Wg C Fq S M' L w' → AllR M' v' (rowsFrom p Rj 0 nn).flatten w' → Dr S M' (G ((base 41).atR (a'.put (some 35) (recvd true (.slice none 0 0) false)) (.inRegion r41.1 [1] :: .code r41.2 :: i41)) cs) w') :
    MSp Try.prog wgL.tWg Wg C nn LW RwI (DoorR Try.prog wgL.tWg Wg RwI Dr) (rowsFrom p Rj 0 nn) 0 [] S M (G ((base 41).atR a [.code s41, .code c41.2]) cs) w := by
  have hub := hub41 (Wg := Wg) (C := C) (LW := LW) (bT := bT) (bX := bX) (cs := cs) H (DoorR Try.prog wgL.tWg Wg RwI Dr) (fun L S M a w e hmap hl hm => door41 (Door := Dr S) H.fq H.n1 H.n7 e hAll (by rw [hmap]) hl hm (fun c a' v' M' w' h1 h2 h3 => hdoor L S c a' v' M' w' h1 h2 h3))
  obtain ⟨m, hm⟩ : ∃ m, nn = m + 1 := ⟨nn - 1, by have := H.n1; omega⟩
  have er : rowsFrom p Rj 0 nn = (Rj 0).filter p :: rowsFrom p Rj 1 m := by rw [hm]; rfl
  have h0 : 0 < nn := H.n1
  rw [er]
  have hT := clo_m (P := Try.prog) (main := true) (ty := wgL.tWg) (Wg := Wg) (S := S) (Stop := StLane Try.prog wgL.tWg Wg C nn LW RwI S 0 ((Rj 0).filter p) (fun c S' M' g' w' => MSp Try.prog wgL.tWg Wg C nn LW RwI (DoorR Try.prog wgL.tWg Wg RwI Dr) (rowsFrom p Rj 1 m) 1 ([] ++ [(c, (Rj 0).filter p)]) S' M' g' w'))
  refine to_loop hT H.fq hLv hM fun a1 w1 l1 m1 => ?_
  refine round41 (cs := cs) (a := a1) (w := w1) (S := S) (y := (M, [])) H.fq H.n7 (DoorR Try.prog wgL.tWg Wg RwI Dr) (Rj 0) (rowsFrom p Rj 1 m) [] [.inLoop c41.1, .inBlock 0, .code c41.2] h0 H.n1 (H.chain 0 h0) (H.head 0 h0) H.code H.test l1 m1 (fun a' S' M' c w' hLv' hM' => ?_)
  exact hub m [(c, (Rj 0).filter p)] S' M' a' w' (Nat.le_refl _) (by simp; omega) (by rw [er]; rfl) hLv' hM'
end
end Go.Proofs.Ytkbfcaaihellfaa

/- The machine's invariant at its beginning: no worker is started. -/
namespace Go.Proofs.Ytkbfcaaihellfaa
open Go.Conc Go.ConcN
open Go.ConcR (KK wgBlock WgAt stA smA rd wr mk Payload Aside2 DC0)
set_option linter.unusedVariables false
set_option linter.unusedSectionVars false

section
variable [Payload] {P : Program} {Sb : Nat → Prop} {ty : TypeId} {Wg C n : Nat} {Rw : List Int → Nat → Obj → Value → Prop} {Dr : (Nat → Prop) → (Nat → Prop) → Goroutine → World → Prop}
open Classical in
theorem start_inv {ls : List (List Int)} {rest : List (List (List Int))} {g : Goroutine} {w : World} {t : Trace} (hn : rest.length + 1 = n) (hCW : C ≠ Wg) (hC : C < w.heap.size) (hW : Wg < w.heap.size)
    (h : MSp P ty Wg C n w.heap.size Rw (DoorR P ty Wg Rw Dr) (ls :: rest) 0 [] (fun b => b < w.heap.size ∧ b ≠ Wg ∧ ¬ Sb b) (fun _ => False) g w) (hSb : ∀ b, Sb b → b < w.heap.size ∧ b ≠ Wg ∧ b ≠ C) (hSc : ∀ b, Sb b → IsRow w b) (hwg : WgAt ty Wg w 0 0) (hpay : PayAt C n w)
    (ct : ∀ Own Rd, CT (ShN Wg) Own Rd t 0) (low : ∀ i a, touchAt t i = some a → a.loc.isMemory = true → blk a.loc < w.heap.size) (norel : NoRelease (stA Wg) t) (deaf : Deaf t 0 = 0) :
    ∃ μ, InvA P Sb ty Wg C n w.heap.size Rw Dr μ #[g] w t := by
  obtain ⟨f, hf⟩ := h
  refine ⟨_, 0, fun _ => ⟨[], Wg, fun _ => False, fun _ => False, 0, .leaf, 0, 0⟩, ⟨ls :: rest, [], fun b => b < w.heap.size ∧ b ≠ Wg ∧ ¬ Sb b, fun _ => False, 9, f, 0⟩,
    fun b => if b = Wg then .wg else if b < w.heap.size then .st else .fr, g, 0, rfl, .lane hf, ?_, ?_, ?_, ?_, ?_, rfl⟩
  · exact ⟨rfl, fun i hi => absurd hi (by omega), ct _ _, low, norel, deaf, fun i hi => absurd hi (by omega), fun i hi => absurd hi (by omega), fun i hi => absurd hi (by omega), hpay, fun i hi => absurd hi (by omega), fun i hi => absurd hi (by omega)⟩
  · refine ⟨fun i hi => absurd hi (by omega), fun b => ?_, fun b hb => ?_, fun i hi => absurd hi (by omega), fun i hi => absurd hi (by omega), fun i i' hi => absurd hi (by omega), by simp, fun b hb => ?_, by simp [hCW, hC], fun b => ?_, fun b hb hb' => by simp [hb, hb'], fun i b hb => ?_, fun i _ => ⟨fun b => ⟨id, id⟩, rfl⟩, hSb, fun b hb => hb.2.2, fun i hi => absurd hi (by omega), hSc⟩
    · by_cases h1 : b = Wg
      · simp [h1]
      · by_cases h3 : b < w.heap.size <;> simp [h1, h3]
    · have e : b < w.heap.size ∧ b ≠ Wg ∧ ¬ Sb b := hb
      simp [e.1, e.2.1]
    · by_cases h1 : b = Wg
      · exact h1
      · by_cases h3 : b < w.heap.size <;> simp [h1, h3] at hb
    · by_cases h1 : b = Wg
      · simp [h1]; omega
      · by_cases h3 : b < w.heap.size <;> simp [h1, h3] <;> omega
    · by_cases h1 : b = Wg
      · simp [h1] at hb
      · by_cases h3 : b < w.heap.size <;> simp [h1, h3] at hb
  · simpa [cntA, pendA, sumTo] using hwg
  · refine ⟨rfl, fun p c l h => by simp at h, fun h => by simp at h, fun i hi => absurd hi (by omega), fun _ => rfl, fun h => by simp at h⟩
  · simp; omega
end
end Go.Proofs.Ytkbfcaaihellfaa

/- mapsThat on the machine: from its row of lanes to the door of Wait, on every tape. -/
namespace Go.Proofs.Ytkbfcaaihellfaa
open Go.Conc Go.ConcN
open Go.ConcR (KK wgBlock WgAt stA smA rd wr mk Payload Aside2 DC0)
set_option linter.unusedVariables false
set_option linter.unusedSectionVars false

/-- behind the last receive -/
def Dr41 (Wg C nn : Nat) (Fq : World → Prop) (cs : List Frame) (All : List (List Int)) (S M : Nat → Prop) (g : Goroutine) (w : World) : Prop :=
  ∃ (L : List (Nat × List (List Int))) (c : Nat) (a : Act) (v : Value), LiveI Wg C nn (nn - 1) c v a ∧ MR wgL.tWg Wg C Fq S M L w ∧ AllR M v All w ∧
    g = G ((base 41).atR (a.put (some 35) (Go.Conc.recvd true (.slice none 0 0) false)) (.inRegion r41.1 [1] :: .code r41.2 :: i41)) cs
theorem to_door {Wg C bT bX fF nn : Nat} {cap : Array Value} {SF : Nat → Prop} {Fq : World → Prop} {w : World} {cs : List Frame} {p : List Int → Bool} {a : Act} {t : Trace} {Rj : Nat → List (List Int)} {Sb : Nat → Prop} {Post : Value → World → Prop} (H : Tst Wg C w.heap.size fF nn cap SF Fq p Rj) (hAll : ((rowsFrom p Rj 0 nn).flatten).length ≤ 1000000)
    (hLv : LiveS Wg C bT bX nn a) (hM : MI wgL.tWg Wg C bT bX fF nn cap SF Fq (fun b => b < w.heap.size ∧ b ≠ Wg ∧ ¬ Sb b) (fun _ => False, []) [] w) (hSb : ∀ b, Sb b → b < w.heap.size ∧ b ≠ Wg ∧ b ≠ C) (hSc : ∀ b, Sb b → IsRow w b) (hwg : WgAt wgL.tWg Wg w 0 0)
    (ct : ∀ Own Rd, CT (ShN Wg) Own Rd t 0) (low : ∀ i a, touchAt t i = some a → a.loc.isMemory = true → blk a.loc < w.heap.size) (norel : NoRelease (stA Wg) t) (deaf : Deaf t 0 = 0)
    (hK : ∀ (μ' : Mu) (gs : Array Goroutine) (w' : World) (u : Trace) (j : Nat) (X : Nat → Wk) (x : Mn) (ow : Nat → Ow) (g : Goroutine) (q : Nat), St Try.prog Sb wgL.tWg Wg C nn w.heap.size RwI (Dr41 Wg C nn Fq cs (rowsFrom p Rj 0 nn).flatten) μ' gs w' u j X x ow g q → x.tag = 2 → Kept w w' → w.heap.size ≤ w'.heap.size → Wn Try.prog Sb Post gs w' u) :
    Wn Try.prog Sb Post #[G ((base 41).atR a [.code s41, .code c41.2]) cs] w t := by
  obtain ⟨m, hm⟩ : ∃ m, nn = m + 1 := ⟨nn - 1, by have := H.n1; omega⟩
  have hsc := script41 (Dr := Dr41 Wg C nn Fq cs (rowsFrom p Rj 0 nn).flatten) (cs := cs) H hAll hLv hM (fun L S c a' v' M' w' h1 h2 h3 => ⟨L, c, a', v', h1, h2, h3, rfl⟩)
  have er : rowsFrom p Rj 0 nn = (Rj 0).filter p :: rowsFrom p Rj 1 m := by rw [hm]; rfl
  have hlen : ∀ k j, (rowsFrom p Rj j k).length = k := by
    intro k
    induction k with
    | zero => intro j; rfl
    | succ k ih => intro j; simp [rowsFrom, ih]
  generalize hA : (rowsFrom p Rj 0 nn).flatten = All at hsc hK ⊢
  rw [er] at hsc
  have hCW : C ≠ Wg := hM.sC.2.1
  obtain ⟨μ, hI⟩ := start_inv (Sb := Sb) (Dr := Dr41 Wg C nn Fq cs All) (by rw [hlen]; omega) hCW hM.sC.1 (live_lt hM.live) hsc hSb hSc hwg hM.pay ct low norel deaf
  refine wn_A (fun S M g w h => by obtain ⟨_, _, _, _, _, _, _, rfl⟩ := h; rfl) (by have := H.n7; omega) (fun μ' gs w' u j X x ow g q hst h2 hk => hK μ' gs w' u j X x ow g q hst h2 hk (Nat.le_of_not_lt fun hlt => ?_)) μ _ _ t hI (Kept.refl w)
  have hf := (hst.own.fr w'.heap.size).1 (Nat.le_refl _)
  by_cases e : w'.heap.size = Wg
  · rw [e, hst.own.wg] at hf; cases hf
  · rw [hst.own.low _ hlt e] at hf; cases hf
end Go.Proofs.Ytkbfcaaihellfaa

/- From the last receive into Wait, in numbers, and from Wait's return to mapsThat's (the kit's words). -/
namespace Go.Proofs.Ytkbfcaaihellfaa
open Go.Conc Go.ConcN Go.ConcN.Gen Go.RowKit Go.Conc.Lib Go.ConcR.Gen
open Go.ConcR (KK wgBlock WgAt stA smA rd wr mk Payload Aside2 DC0)
set_option linter.unusedVariables false
set_option linter.unusedSectionVars false

theorem f_rely {Wg C : Nat} {F : World → Prop} (hF2 : ∀ w w', Aside2 C Wg w w' → F w → F w') {w w₁ : World} (h : F w ∧ WgLive wgL.tWg Wg w) (r : RC wgL.tWg Wg C w w₁) : F w₁ ∧ WgLive wgL.tWg Wg w₁ := ⟨hF2 _ _ r.aside h.1, r.live h.2⟩
section
variable {Wg C nn c LW : Nat} {Own Rd : Nat → Loc → Prop} {F : World → Prop} {c0 : Frame} {cs : List Frame} {v : Value} {a : Act} {w : World} {vals : List Value} {Post : Value → World → Prop}
set_option maxRecDepth 100000 in
set_option maxHeartbeats 8000000 in
theorem into_wait (hF2 : ∀ w w', Aside2 C Wg w w' → F w → F w') (hn1 : 1 ≤ nn) (hn7 : nn ≤ 7) (hLv : LiveI Wg C nn (nn - 1) c v a) (hF : F w ∧ WgLive wgL.tWg Wg w)
    {mT : Nat} (hT : ∀ w, F w → WgLive wgL.tWg Wg w → Goes Try.prog true (RC wgL.tWg Wg C) (DP Wg Own Rd nn LW) (AtRet Try.prog Wg C nn Own Rd vals Post) mT (G (c0.finish v) cs) w) : ∃ (m : Nat) (Anch : Goroutine → World → Prop),
    Goes Try.prog true (RC wgL.tWg Wg C) (DP Wg Own Rd nn LW) (AtKd Try.prog wgL.tWg Wg C nn Own Rd LW Anch) m (G ((base 41).atR (a.put (some 35) (Go.Conc.recvd true (.slice none 0 0) false)) (.inRegion r41.1 [1] :: .code r41.2 :: i41)) (c0 :: cs)) w ∧
    (∀ g w, Anch g w → g.status = .running) ∧ ∀ g w, Anch g w → ∃ m, Goes Try.prog true (RC wgL.tWg Wg C) (DP Wg Own Rd nn LW) (AtW1 Try.prog wgL.tWg Wg C nn Own Rd LW vals Anch Post) m g w := by
  obtain ⟨tmps, ds⟩ := a
  obtain ⟨rfl, hsz, h5, h9, h28, h29, h30, h34⟩ := hLv
  obtain ⟨J, rfl⟩ : ∃ J : Nat → Value, tmps = #[J 0, J 1, J 2, J 3, J 4, J 5, J 6, J 7, J 8, J 9, J 10, J 11, J 12, J 13, J 14, J 15, J 16, J 17, J 18, J 19, J 20, J 21, J 22, J 23, J 24, J 25, J 26, J 27, J 28, J 29, J 30, J 31, J 32, J 33, J 34, J 35, J 36, J 37, J 38, J 39, J 40, J 41, J 42, J 43, J 44] := ⟨fun i => tmps.getD i undef, (lit tmps).trans (by rw [hsz]; rfl)⟩
  change J 5 = _ at h5
  change J 9 = _ at h9
  change J 28 = _ at h28
  change J 29 = _ at h29
  change J 30 = _ at h30
  change J 34 = _ at h34
  simp only [h5, h9, h28, h29, h30, h34]
  clear hsz h5 h9 h28 h29 h30
  have hsum : ((nn - 1 : Nat) : Int) + 1 = (nn : Int) := by omega
  generalize ((nn - 1 : Nat) : Int) = jj at *
  have hb1 : -9223372036854775808 ≤ (nn : Int) := by omega
  have hb2 : (nn : Int) ≤ 9223372036854775807 := by omega
  have hwr : IntKind.i64.wrap (nn : Int) = nn := by rw [IntKind.wrap_i64]; omega
  have hnot : decide ((nn : Int) < (nn : Int)) = false := by simp
  refine ⟨80, ?_⟩
  co_apply Exists.intro
  refine ⟨?_, ?_, ?_⟩
  · unfold i41
    simp only [r41, q41, p41, c41, Try.f41, recvd, if_true]
    walk_nrm
    change Goes _ _ _ _ _ 80 (G ((base 41).at _ _) _) w
    u_op (f_rely hF2) hF
    u_c stepG_region_end (f_rely hF2) hF
    u_c stepG_seq (f_rely hF2) hF
    u_cond false (f_rely hF2) hF
    u_exit (f_rely hF2) hF
    u_c stepG_inBlock (f_rely hF2) hF
    u_reg (f_rely hF2) hF
    u_op (f_rely hF2) hF
    u_op (f_rely hF2) hF
    u_c stepG_region_end (f_rely hF2) hF
    u_c stepG_inLoop (f_rely hF2) hF
    u_c stepG_seq (f_rely hF2) hF
    u_reg (f_rely hF2) hF
    u_op (f_rely hF2) hF
    u_c stepG_region_end (f_rely hF2) hF
    u_c stepG_seq (f_rely hF2) hF
    u_cond false (f_rely hF2) hF
    u_exit (f_rely hF2) hF
    u_c stepG_seq (f_rely hF2) hF
    u_reg (f_rely hF2) hF
    have H := wgLib
    u_call H.f_wait (nm_wait wgL) waitFn (f_rely hF2) hF
    exact Goes.mono (waitStartN (L := wgL) (C := C) (n := nn) (Low := LW) (Own := Own) (Rd := Rd) (F := F) wgLib hF2 _ hF) (by omega)
  · rintro g w ⟨_, rfl, _⟩; rfl
  · intro g w hg
    refine waitRoundN (L := wgL) (mT := mT + 12) wgLib hF2 (fun w hF hl => ?_) g w hg
    clear hg
    replace hF := And.intro hF hl
    clear hl
    walk_nrm
    u_c stepG_region_end (f_rely hF2) hF
    u_c stepG_seq (f_rely hF2) hF
    u_reg (f_rely hF2) hF
    u_op (f_rely hF2) hF
    u_op (f_rely hF2) hF
    u_c stepG_region_end (f_rely hF2) hF
    u_c stepG_ret' (f_rely hF2) hF
    u_in (f_rely hF2) hF
    rw [stepG_leave rfl rfl Try.func41 (results_tmp (t := 4) rfl _ _ _) (events_results_tmp (t := 4) rfl _ _)]
    simp only [goes_go]
    refine ⟨by u_nil, ?_⟩
    exact Goes.mono (hT _ hF.1 hF.2) (by omega)
end
end Go.Proofs.Ytkbfcaaihellfaa
