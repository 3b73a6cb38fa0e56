/- Steps on the way to the law; each part says what it proves. -/
import Derived.Test.YtkbfcaaihellfaaU19

set_option linter.unusedSimpArgs false

/- Walks in company: (*WaitGroup).Add(1). -/
namespace Go.Proofs.Ytkbfcaaihellfaa
open Go.Conc Go.ConcN Go.ConcN.Gen Go.RowKit Go.Conc.Lib Go.ConcR.Gen
open Go.ConcR (KK wgBlock WgAt stA smA rd wr mk Payload Aside2 DC0)
set_option linter.unusedVariables false
set_option linter.unusedSectionVars false

section
variable {P : Program} {main : Bool} {γ : Type} {R : γ → World → World → Prop} {D : γ → World → World → Array Event → γ → Prop} {T : γ → Goroutine → World → Prop}
variable {b : Frame} {a : Act} {k : List Item} {cs : List Frame} {y : γ} {w : World} {ops : Array Oper}
theorem t_retM (hT : Clo P main R D T) (hro : b.roundOf = none) (h : T y (G { b.atR a (.code .ret :: k) with mode := .returning } cs) w) : T y (G (b.atR a (.code .ret :: k)) cs) w :=
  hT.ctl rfl (fun w => by rw [Frame.atR_of_none hro]; exact stepG_ret') h
/-- An entry of the model's that only yields a value. -/
theorem t_entry (hT : Clo P main R D T) (v : Value) {i : Nat} {rest : List Nat} {o : Oper} (ho : ops[i]? = some o) (hro : b.roundOf = none)
    (h1 : ∀ w, stepG P main (G (b.at a (.inRegion ops (i :: rest) :: k)) cs) w = .go (G (b.at (a.put o.dst v) (.inRegion ops rest :: k)) cs) w #[])
    (h : T y (G (b.atR (a.put o.dst v) (.inRegion ops rest :: k)) cs) w) : T y (G (b.atR a (.inRegion ops (i :: rest) :: k)) cs) w :=
  hT.ctl rfl (fun w => by rw [Frame.atR_of_none hro, Frame.atR_of_none hro]; exact h1 w) h
end

/-- a goroutine's family on its way to a stop -/
def TM [Payload] (P : Program) (main : Bool) (ty : TypeId) (Wg : Nat) (S : Nat → Prop) (Stop : (Nat → Prop) → Goroutine → World → Prop) (y : Gh) (g : Goroutine) (w : World) : Prop := ∃ f, Way P main ty Wg S Stop f y.1 g w
theorem clo_m [Payload] {P : Program} {main : Bool} {ty : TypeId} {Wg : Nat} {S : Nat → Prop} {Stop : (Nat → Prop) → Goroutine → World → Prop} : Clo P main (RG ty Wg S) (DG main Wg S) (TM P main ty Wg S Stop) := clo_any Stop
theorem tm_stop [Payload] {P : Program} {main : Bool} {ty : TypeId} {Wg : Nat} {S : Nat → Prop} {Stop : (Nat → Prop) → Goroutine → World → Prop} {y : Gh} {g : Goroutine} {w : World} (h : ∀ w₁, RG ty Wg S y w w₁ → Stop y.1 g w₁) : TM P main ty Wg S Stop y g w := ⟨.leaf, Way.stop h⟩
theorem dg_said [Payload] {Wg : Nat} {S : Nat → Prop} {y : Gh} {w : World} {es : Array Event} (h : ∀ e ∈ es, EvSaid Wg e) : DG true Wg S y w w es y := ⟨⟨fun _ _ _ => rfl, Nat.le_refl _, rfl, rfl, rfl, fun e he => .inr ⟨rfl, h e he⟩⟩, Prod.ext (more_same rfl).symm rfl⟩

section
variable [Payload] {L : WgLink} {P : Program} {Wg C n LW : Nat} {Rw : List Int → Nat → Obj → Value → Prop} {S M : Nat → Prop} {j : Nat} {ls : List (List Int)} {Kx : Nat → (Nat → Prop) → (Nat → Prop) → Goroutine → World → Prop} {c : Nat} {F : World → Prop}
  {b₀ : Frame} {a₀ : Act} {ops₀ : Array Oper} {i₀ : Nat} {rest₀ : List Nat} {k₀ : List Item} {cs : List Frame}
set_option maxRecDepth 100000 in
set_option maxHeartbeats 8000000 in
theorem addPos_g (H : WgLib P L) (hF1 : ∀ w w₁, RG L.tWg Wg S (M, []) w w₁ → F w → F w₁) (hF2 : ∀ w v, F w → WgLive L.tWg Wg (w.setCell (stA Wg) v) → F (w.setCell (stA Wg) v))
    (hc : ∀ w, F w → WgLive L.tWg Wg w → TM P true L.tWg Wg S (StGo P L.tWg Wg C n LW Rw S j ls Kx c) (M, []) (G (b₀.atR (a₀.put ((ops₀[i₀]?).bind (·.dst)) (.tuple #[])) (.inRegion ops₀ rest₀ :: k₀)) cs) w)
    (w : World) (hF : F w ∧ WgLive L.tWg Wg w) :
    TM P true L.tWg Wg S (StKd P L.tWg Wg C n LW Rw S j ls Kx c) (M, [])
      (G ((base L.add).atR ⟨#[.pointer (some ⟨Wg, 0, none⟩), .int .i64 1] ++ Array.replicate 115 undef, []⟩ [.code (body_add L)]) (b₀.atR a₀ (.inRegion ops₀ (i₀ :: rest₀) :: k₀) :: cs)) w := by
  lib_facts
  have hT := clo_m (P := P) (main := true) (ty := L.tWg) (Wg := Wg) (S := S) (Stop := StKd P L.tWg Wg C n LW Rw S j ls Kx c)
  have hk2 : (base L.add).kind ≠ .early := by simp [base]
  have hro : (base L.add).roundOf = none := rfl
  simp only [body_add, addFn, Option.getD_some]
  simp only [List.size_toArray, List.length_cons, List.length_nil, Nat.reduceAdd, Nat.reduceSub, Array.replicate_succ, Array.replicate_zero, List.push_toArray, List.append_toArray, List.nil_append, List.cons_append]
  repeat (first | refine t_seq hT ?_ | refine t_block hT ?_ | refine t_skip hT ?_ | refine t_inBlock hT ?_ | refine t_rend hT ?_ | refine t_exit hT rfl ?_)
  refine t_cond hT (t := true) (by first | rfl | (simp [Act.eval]; omega)) ?_
  simp only [if_true, if_false, reduceIte, Bool.false_eq_true]
  repeat (first | refine t_seq hT ?_ | refine t_block hT ?_ | refine t_skip hT ?_ | refine t_inBlock hT ?_ | refine t_rend hT ?_ | refine t_exit hT rfl ?_)
  refine t_region hT [0, 1] rfl ?_
  refine t_op hT rfl (by rfl) (by first | decide | assumption) (by first | rfl | (rw [hro]; rfl)) (fun _ hR K hK => ?_)
  replace hF := And.intro (hF1 _ _ hR hF.1) (hR.live hF.2)
  clear hR
  go_simp
  try (unfold stored; go_simp)
  try go_ints
  refine hK _ _ (M, []) (by rw [listed_nil (by simp [go_sem, *])]; exact hT.idle _ _) ?_
  clear hK K
  try walk_nrm
  try w_num
  refine t_op hT rfl (by rfl) (by first | decide | assumption) (by first | rfl | (rw [hro]; rfl)) (fun _ hR K hK => ?_)
  replace hF := And.intro (hF1 _ _ hR hF.1) (hR.live hF.2)
  clear hR
  go_simp
  try (unfold stored; go_simp)
  try go_ints
  refine hK _ _ (M, []) (by rw [listed_nil (by simp [go_sem, *])]; exact hT.idle _ _) ?_
  clear hK K
  try walk_nrm
  try w_num
  repeat (first | refine t_seq hT ?_ | refine t_block hT ?_ | refine t_skip hT ?_ | refine t_inBlock hT ?_ | refine t_rend hT ?_ | refine t_exit hT rfl ?_)
  refine t_cond hT (t := false) (by first | rfl | (simp [Act.eval]; omega)) ?_
  simp only [if_true, if_false, reduceIte, Bool.false_eq_true]
  repeat (first | refine t_seq hT ?_ | refine t_block hT ?_ | refine t_skip hT ?_ | refine t_inBlock hT ?_ | refine t_rend hT ?_ | refine t_exit hT rfl ?_)
  refine t_region hT [0] rfl ?_
  refine tm_stop fun w₁ hR => ⟨rfl, _, stepG_mark0 .disable (by simp) rfl rfl hk2 rfl H.f_disable (x_disable_n L) (x_disable_b L) (x_disable_x L) (x_disable_f L), ?_⟩
  replace hF := And.intro (hF1 _ _ hR hF.1) (hR.live hF.2)
  clear hR hT
  have hT := clo_m (P := P) (main := true) (ty := L.tWg) (Wg := Wg) (S := S) (Stop := StA1 P L.tWg Wg C n LW Rw S j ls Kx c)
  walk_nrm
  change TM P true L.tWg Wg S (StA1 P L.tWg Wg C n LW Rw S j ls Kx c) (M, []) (G ((base L.add).atR _ _) _) _
  repeat (first | refine t_seq hT ?_ | refine t_block hT ?_ | refine t_skip hT ?_ | refine t_inBlock hT ?_ | refine t_rend hT ?_ | refine t_exit hT rfl ?_)
  refine t_region hT [0] rfl ?_
  refine t_defer hT (d := dcall L.enable #[]) rfl (by rfl) hk2 (by rfl) (fun w => by unfold execOp; simp [resolve, Deferred.ofValue, Act.eval, dcall]) (fun w => by unfold execOp; simp [resolve, Deferred.ofValue, Act.eval]) ?_
  try walk_nrm
  repeat (first | refine t_seq hT ?_ | refine t_block hT ?_ | refine t_skip hT ?_ | refine t_inBlock hT ?_ | refine t_rend hT ?_ | refine t_exit hT rfl ?_)
  refine t_region hT [0] rfl ?_
  refine t_op hT rfl (by rfl) (by first | decide | assumption) (by first | rfl | (rw [hro]; rfl)) (fun _ hR K hK => ?_)
  replace hF := And.intro (hF1 _ _ hR hF.1) (hR.live hF.2)
  clear hR
  go_simp
  try (unfold stored; go_simp)
  try go_ints
  refine hK _ _ (M, []) (by rw [listed_nil (by simp [go_sem, *])]; exact hT.idle _ _) ?_
  clear hK K
  try walk_nrm
  try w_num
  repeat (first | refine t_seq hT ?_ | refine t_block hT ?_ | refine t_skip hT ?_ | refine t_inBlock hT ?_ | refine t_rend hT ?_ | refine t_exit hT rfl ?_)
  refine t_region hT [0] rfl ?_
  refine t_entry hT (.bool false) rfl hro (fun w => stepG_entry_pure (.bool false) rfl rfl hk2 rfl H.f_inBubble (x_inBubble_n L) (x_inBubble_b L) (x_inBubble_x L) (x_inBubble_f L)) ?_
  try walk_nrm
  repeat (first | refine t_seq hT ?_ | refine t_block hT ?_ | refine t_skip hT ?_ | refine t_inBlock hT ?_ | refine t_rend hT ?_ | refine t_exit hT rfl ?_)
  refine t_cond hT (t := false) (by first | rfl | (simp [Act.eval]; omega)) ?_
  simp only [if_true, if_false, reduceIte, Bool.false_eq_true]
  repeat (first | refine t_seq hT ?_ | refine t_block hT ?_ | refine t_skip hT ?_ | refine t_inBlock hT ?_ | refine t_rend hT ?_ | refine t_exit hT rfl ?_)
  refine t_region hT [0, 1, 2, 3, 4, 5, 6, 7] rfl ?_
  refine t_op hT rfl (by rfl) (by first | decide | assumption) (by first | rfl | (rw [hro]; rfl)) (fun _ hR K hK => ?_)
  replace hF := And.intro (hF1 _ _ hR hF.1) (hR.live hF.2)
  clear hR
  go_simp
  try (unfold stored; go_simp)
  try go_ints
  refine hK _ _ (M, []) (by rw [listed_nil (by simp [go_sem, *])]; exact hT.idle _ _) ?_
  clear hK K
  try walk_nrm
  try w_num
  refine t_op hT rfl (by rfl) (by first | decide | assumption) (by first | rfl | (rw [hro]; rfl)) (fun _ hR K hK => ?_)
  replace hF := And.intro (hF1 _ _ hR hF.1) (hR.live hF.2)
  clear hR
  go_simp
  try (unfold stored; go_simp)
  try go_ints
  refine hK _ _ (M, []) (by rw [listed_nil (by simp [go_sem, *])]; exact hT.idle _ _) ?_
  clear hK K
  try walk_nrm
  try w_num
  refine t_op hT rfl (by rfl) (by first | decide | assumption) (by first | rfl | (rw [hro]; rfl)) (fun _ hR K hK => ?_)
  replace hF := And.intro (hF1 _ _ hR hF.1) (hR.live hF.2)
  clear hR
  go_simp
  try (unfold stored; go_simp)
  try go_ints
  refine hK _ _ (M, []) (by rw [listed_nil (by simp [go_sem, *])]; exact hT.idle _ _) ?_
  clear hK K
  try walk_nrm
  try w_num
  refine t_op hT rfl (by rfl) (by first | decide | assumption) (by first | rfl | (rw [hro]; rfl)) (fun _ hR K hK => ?_)
  replace hF := And.intro (hF1 _ _ hR hF.1) (hR.live hF.2)
  clear hR
  go_simp
  try (unfold stored; go_simp)
  try go_ints
  refine hK _ _ (M, []) (by rw [listed_nil (by simp [go_sem, *])]; exact hT.idle _ _) ?_
  clear hK K
  try walk_nrm
  try w_num
  refine t_op hT rfl (by rfl) (by first | decide | assumption) (by first | rfl | (rw [hro]; rfl)) (fun _ hR K hK => ?_)
  replace hF := And.intro (hF1 _ _ hR hF.1) (hR.live hF.2)
  clear hR
  go_simp
  try (unfold stored; go_simp)
  try go_ints
  refine hK _ _ (M, []) (by rw [listed_nil (by simp [go_sem, *])]; exact hT.idle _ _) ?_
  clear hK K
  try walk_nrm
  try w_num
  refine t_op hT rfl (by rfl) (by first | decide | assumption) (by first | rfl | (rw [hro]; rfl)) (fun _ hR K hK => ?_)
  replace hF := And.intro (hF1 _ _ hR hF.1) (hR.live hF.2)
  clear hR
  go_simp
  try (unfold stored; go_simp)
  try go_ints
  refine hK _ _ (M, []) (by rw [listed_nil (by simp [go_sem, *])]; exact hT.idle _ _) ?_
  clear hK K
  try walk_nrm
  try w_num
  refine t_into hT rfl (by rfl) (by first | decide | assumption | exact base_kind _ | exact baseD_kind _) (by first | rfl | (rw [hro]; rfl)) rfl H.f_uAdd (nm_uAdd L) rfl ?_
  walk_nrmf uAddFn
  repeat (first | refine t_seq hT ?_ | refine t_block hT ?_ | refine t_skip hT ?_ | refine t_inBlock hT ?_ | refine t_rend hT ?_ | refine t_exit hT rfl ?_)
  refine t_region hT [0] rfl ?_
  refine t_op hT rfl (by rfl) (by first | decide | assumption) (by first | rfl | (rw [hro]; rfl)) (fun _ hR K hK => ?_)
  replace hF := And.intro (hF1 _ _ hR hF.1) (hR.live hF.2)
  clear hR
  go_simp
  try (unfold stored; go_simp)
  try go_ints
  refine hK _ _ (M, []) (by rw [listed_nil (by simp [go_sem, *])]; exact hT.idle _ _) ?_
  clear hK K
  try walk_nrm
  try w_num
  repeat (first | refine t_seq hT ?_ | refine t_block hT ?_ | refine t_skip hT ?_ | refine t_inBlock hT ?_ | refine t_rend hT ?_ | refine t_exit hT rfl ?_)
  refine t_region hT [0, 1, 2, 3, 4, 5] rfl ?_
  refine t_op hT rfl (by rfl) (by first | decide | assumption) (by first | rfl | (rw [hro]; rfl)) (fun _ hR K hK => ?_)
  replace hF := And.intro (hF1 _ _ hR hF.1) (hR.live hF.2)
  clear hR
  go_simp
  try (unfold stored; go_simp)
  try go_ints
  refine hK _ _ (M, []) (by rw [listed_nil (by simp [go_sem, *])]; exact hT.idle _ _) ?_
  clear hK K
  try walk_nrm
  try w_num
  refine t_op hT rfl (by rfl) (by first | decide | assumption) (by first | rfl | (rw [hro]; rfl)) (fun _ hR K hK => ?_)
  replace hF := And.intro (hF1 _ _ hR hF.1) (hR.live hF.2)
  clear hR
  go_simp
  try (unfold stored; go_simp)
  try go_ints
  refine hK _ _ (M, []) (by rw [listed_nil (by simp [go_sem, *])]; exact hT.idle _ _) ?_
  clear hK K
  try walk_nrm
  try w_num
  refine t_op hT rfl (by rfl) (by first | decide | assumption) (by first | rfl | (rw [hro]; rfl)) (fun _ hR K hK => ?_)
  replace hF := And.intro (hF1 _ _ hR hF.1) (hR.live hF.2)
  clear hR
  go_simp
  try (unfold stored; go_simp)
  try go_ints
  refine hK _ _ (M, []) (by rw [listed_nil (by simp [go_sem, *])]; exact hT.idle _ _) ?_
  clear hK K
  try walk_nrm
  try w_num
  refine t_op hT rfl (by rfl) (by first | decide | assumption) (by first | rfl | (rw [hro]; rfl)) (fun _ hR K hK => ?_)
  replace hF := And.intro (hF1 _ _ hR hF.1) (hR.live hF.2)
  clear hR
  go_simp
  try (unfold stored; go_simp)
  try go_ints
  refine hK _ _ (M, []) (by rw [listed_nil (by simp [go_sem, *])]; exact hT.idle _ _) ?_
  clear hK K
  try walk_nrm
  try w_num
  refine tm_stop fun w₂ hR => ⟨rfl, fun v hv hw => ?_⟩
  replace hF := And.intro (hF1 _ _ hR hF.1) (hR.live hF.2)
  clear hR hT
  rcases Nat.eq_zero_or_pos v with rfl | hvp
  · -- THE COUNT IS NOW 1
    replace hw : WgAt L.tWg Wg w₂ 0 0 := by simpa using hw
    have z : (((0 : Nat) : Int) + 1) * KK = KK := by simp
    rw [z]
    have e0 : IntKind.u64.wrap (0 + 4294967296) = KK := by decide
    refine ⟨_, (stepG_add_atomic rfl rfl (base_kind _) rfl H.f_addU64 (x_addU64_n L) (x_addU64_b L) (x_addU64_x L) .u64 (x_addU64_f L) rfl rfl hw.cellSt (hw.thaw 0)).trans (by rw [e0]; rfl), ?_⟩
    replace hF : F (w₂.setCell (stA Wg) (.int .u64 KK)) ∧ WgLive L.tWg Wg (w₂.setCell (stA Wg) (.int .u64 KK)) := ⟨hF2 _ _ hF.1 ⟨_, _, hw.setSt _⟩, ⟨_, _, hw.setSt _⟩⟩
    clear hw
    simp only [KK] at hF ⊢
    walk_nrm
    have hT := clo_m (P := P) (main := true) (ty := L.tWg) (Wg := Wg) (S := S) (Stop := StKe P L.tWg Wg C n LW Rw S j ls Kx c)
    change TM P true L.tWg Wg S (StKe P L.tWg Wg C n LW Rw S j ls Kx c) (M, []) (G ((base L.uAdd).atR _ _) _) _
    refine t_op hT rfl (by rfl) (by first | decide | assumption) (by first | rfl | (rw [hro]; rfl)) (fun _ hR K hK => ?_)
    replace hF := And.intro (hF1 _ _ hR hF.1) (hR.live hF.2)
    clear hR
    go_simp
    try (unfold stored; go_simp)
    try go_ints
    refine hK _ _ (M, []) (by rw [listed_nil (by simp [go_sem, *])]; exact hT.idle _ _) ?_
    clear hK K
    try walk_nrm
    try w_num
    repeat (first | refine t_seq hT ?_ | refine t_block hT ?_ | refine t_skip hT ?_ | refine t_inBlock hT ?_ | refine t_rend hT ?_ | refine t_exit hT rfl ?_)
    refine t_ret hT rfl rfl rfl H.f_uAdd (resultsC_tmp (by rfl) _) ?_
    rw [Frame.finish_atR]
    try walk_nrm
    refine t_op hT rfl (by rfl) (by first | decide | assumption) (by first | rfl | (rw [hro]; rfl)) (fun _ hR K hK => ?_)
    replace hF := And.intro (hF1 _ _ hR hF.1) (hR.live hF.2)
    clear hR
    go_simp
    try (unfold stored; go_simp)
    try go_ints
    refine hK _ _ (M, []) (by rw [listed_nil (by simp [go_sem, *])]; exact hT.idle _ _) ?_
    clear hK K
    try walk_nrm
    try w_num
    repeat (first | refine t_seq hT ?_ | refine t_block hT ?_ | refine t_skip hT ?_ | refine t_inBlock hT ?_ | refine t_rend hT ?_ | refine t_exit hT rfl ?_)
    refine t_region hT [0, 1, 2, 3, 4, 5, 6] rfl ?_
    refine t_op hT rfl (by rfl) (by first | decide | assumption) (by first | rfl | (rw [hro]; rfl)) (fun _ hR K hK => ?_)
    replace hF := And.intro (hF1 _ _ hR hF.1) (hR.live hF.2)
    clear hR
    go_simp
    try (unfold stored; go_simp)
    try go_ints
    refine hK _ _ (M, []) (by rw [listed_nil (by simp [go_sem, *])]; exact hT.idle _ _) ?_
    clear hK K
    try walk_nrm
    try w_num
    refine t_op hT rfl (by rfl) (by first | decide | assumption) (by first | rfl | (rw [hro]; rfl)) (fun _ hR K hK => ?_)
    replace hF := And.intro (hF1 _ _ hR hF.1) (hR.live hF.2)
    clear hR
    go_simp
    try (unfold stored; go_simp)
    try go_ints
    refine hK _ _ (M, []) (by rw [listed_nil (by simp [go_sem, *])]; exact hT.idle _ _) ?_
    clear hK K
    try walk_nrm
    try w_num
    refine t_op hT rfl (by rfl) (by first | decide | assumption) (by first | rfl | (rw [hro]; rfl)) (fun _ hR K hK => ?_)
    replace hF := And.intro (hF1 _ _ hR hF.1) (hR.live hF.2)
    clear hR
    go_simp
    try (unfold stored; go_simp)
    try go_ints
    refine hK _ _ (M, []) (by rw [listed_nil (by simp [go_sem, *])]; exact hT.idle _ _) ?_
    clear hK K
    try walk_nrm
    try w_num
    refine t_op hT rfl (by rfl) (by first | decide | assumption) (by first | rfl | (rw [hro]; rfl)) (fun _ hR K hK => ?_)
    replace hF := And.intro (hF1 _ _ hR hF.1) (hR.live hF.2)
    clear hR
    go_simp
    try (unfold stored; go_simp)
    try go_ints
    refine hK _ _ (M, []) (by rw [listed_nil (by simp [go_sem, *])]; exact hT.idle _ _) ?_
    clear hK K
    try walk_nrm
    try w_num
    refine t_un hT rfl (by rfl) ?_
    try walk_nrm
    refine t_un hT rfl (by rfl) ?_
    try walk_nrm
    refine t_op hT rfl (by rfl) (by first | decide | assumption) (by first | rfl | (rw [hro]; rfl)) (fun _ hR K hK => ?_)
    replace hF := And.intro (hF1 _ _ hR hF.1) (hR.live hF.2)
    clear hR
    go_simp
    try (unfold stored; go_simp)
    try go_ints
    refine hK _ _ (M, []) (by rw [listed_nil (by simp [go_sem, *])]; exact hT.idle _ _) ?_
    clear hK K
    try walk_nrm
    try w_num
    repeat (first | refine t_seq hT ?_ | refine t_block hT ?_ | refine t_skip hT ?_ | refine t_inBlock hT ?_ | refine t_rend hT ?_ | refine t_exit hT rfl ?_)
    refine t_cond hT (t := false) (by first | rfl | (simp [Act.eval]; omega)) ?_
    simp only [if_true, if_false, reduceIte, Bool.false_eq_true]
    repeat (first | refine t_seq hT ?_ | refine t_block hT ?_ | refine t_skip hT ?_ | refine t_inBlock hT ?_ | refine t_rend hT ?_ | refine t_exit hT rfl ?_)
    refine t_region hT [0, 1, 2, 3] rfl ?_
    refine t_op hT rfl (by rfl) (by first | decide | assumption) (by first | rfl | (rw [hro]; rfl)) (fun _ hR K hK => ?_)
    replace hF := And.intro (hF1 _ _ hR hF.1) (hR.live hF.2)
    clear hR
    go_simp
    try (unfold stored; go_simp)
    try go_ints
    refine hK _ _ (M, []) (by rw [listed_nil (by simp [go_sem, *])]; exact hT.idle _ _) ?_
    clear hK K
    try walk_nrm
    try w_num
    refine t_op hT rfl (by rfl) (by first | decide | assumption) (by first | rfl | (rw [hro]; rfl)) (fun _ hR K hK => ?_)
    replace hF := And.intro (hF1 _ _ hR hF.1) (hR.live hF.2)
    clear hR
    go_simp
    try (unfold stored; go_simp)
    try go_ints
    refine hK _ _ (M, []) (by rw [listed_nil (by simp [go_sem, *])]; exact hT.idle _ _) ?_
    clear hK K
    try walk_nrm
    try w_num
    refine t_op hT rfl (by rfl) (by first | decide | assumption) (by first | rfl | (rw [hro]; rfl)) (fun _ hR K hK => ?_)
    replace hF := And.intro (hF1 _ _ hR hF.1) (hR.live hF.2)
    clear hR
    go_simp
    try (unfold stored; go_simp)
    try go_ints
    refine hK _ _ (M, []) (by rw [listed_nil (by simp [go_sem, *])]; exact hT.idle _ _) ?_
    clear hK K
    try walk_nrm
    try w_num
    refine t_op hT rfl (by rfl) (by first | decide | assumption) (by first | rfl | (rw [hro]; rfl)) (fun _ hR K hK => ?_)
    replace hF := And.intro (hF1 _ _ hR hF.1) (hR.live hF.2)
    clear hR
    go_simp
    try (unfold stored; go_simp)
    try go_ints
    refine hK _ _ (M, []) (by rw [listed_nil (by simp [go_sem, *])]; exact hT.idle _ _) ?_
    clear hK K
    try walk_nrm
    try w_num
    repeat (first | refine t_seq hT ?_ | refine t_block hT ?_ | refine t_skip hT ?_ | refine t_inBlock hT ?_ | refine t_rend hT ?_ | refine t_exit hT rfl ?_)
    refine t_region hT [0, 1, 2, 3] rfl ?_
    refine t_op hT rfl (by rfl) (by first | decide | assumption) (by first | rfl | (rw [hro]; rfl)) (fun _ hR K hK => ?_)
    replace hF := And.intro (hF1 _ _ hR hF.1) (hR.live hF.2)
    clear hR
    go_simp
    try (unfold stored; go_simp)
    try go_ints
    refine hK _ _ (M, []) (by rw [listed_nil (by simp [go_sem, *])]; exact hT.idle _ _) ?_
    clear hK K
    try walk_nrm
    try w_num
    refine t_op hT rfl (by rfl) (by first | decide | assumption) (by first | rfl | (rw [hro]; rfl)) (fun _ hR K hK => ?_)
    replace hF := And.intro (hF1 _ _ hR hF.1) (hR.live hF.2)
    clear hR
    go_simp
    try (unfold stored; go_simp)
    try go_ints
    refine hK _ _ (M, []) (by rw [listed_nil (by simp [go_sem, *])]; exact hT.idle _ _) ?_
    clear hK K
    try walk_nrm
    try w_num
    refine t_op hT rfl (by rfl) (by first | decide | assumption) (by first | rfl | (rw [hro]; rfl)) (fun _ hR K hK => ?_)
    replace hF := And.intro (hF1 _ _ hR hF.1) (hR.live hF.2)
    clear hR
    go_simp
    try (unfold stored; go_simp)
    try go_ints
    refine hK _ _ (M, []) (by rw [listed_nil (by simp [go_sem, *])]; exact hT.idle _ _) ?_
    clear hK K
    try walk_nrm
    try w_num
    refine t_op hT rfl (by rfl) (by first | decide | assumption) (by first | rfl | (rw [hro]; rfl)) (fun _ hR K hK => ?_)
    replace hF := And.intro (hF1 _ _ hR hF.1) (hR.live hF.2)
    clear hR
    go_simp
    try (unfold stored; go_simp)
    try go_ints
    refine hK _ _ (M, []) (by rw [listed_nil (by simp [go_sem, *])]; exact hT.idle _ _) ?_
    clear hK K
    try walk_nrm
    try w_num
    repeat (first | refine t_seq hT ?_ | refine t_block hT ?_ | refine t_skip hT ?_ | refine t_inBlock hT ?_ | refine t_rend hT ?_ | refine t_exit hT rfl ?_)
    refine t_region hT [0, 1, 2, 3, 4, 5, 6, 7, 8, 9] rfl ?_
    refine t_op hT rfl (by rfl) (by first | decide | assumption) (by first | rfl | (rw [hro]; rfl)) (fun _ hR K hK => ?_)
    replace hF := And.intro (hF1 _ _ hR hF.1) (hR.live hF.2)
    clear hR
    go_simp
    try (unfold stored; go_simp)
    try go_ints
    refine hK _ _ (M, []) (by rw [listed_nil (by simp [go_sem, *])]; exact hT.idle _ _) ?_
    clear hK K
    try walk_nrm
    try w_num
    refine t_op hT rfl (by rfl) (by first | decide | assumption) (by first | rfl | (rw [hro]; rfl)) (fun _ hR K hK => ?_)
    replace hF := And.intro (hF1 _ _ hR hF.1) (hR.live hF.2)
    clear hR
    go_simp
    try (unfold stored; go_simp)
    try go_ints
    refine hK _ _ (M, []) (by rw [listed_nil (by simp [go_sem, *])]; exact hT.idle _ _) ?_
    clear hK K
    try walk_nrm
    try w_num
    refine t_op hT rfl (by rfl) (by first | decide | assumption) (by first | rfl | (rw [hro]; rfl)) (fun _ hR K hK => ?_)
    replace hF := And.intro (hF1 _ _ hR hF.1) (hR.live hF.2)
    clear hR
    go_simp
    try (unfold stored; go_simp)
    try go_ints
    refine hK _ _ (M, []) (by rw [listed_nil (by simp [go_sem, *])]; exact hT.idle _ _) ?_
    clear hK K
    try walk_nrm
    try w_num
    refine t_op hT rfl (by rfl) (by first | decide | assumption) (by first | rfl | (rw [hro]; rfl)) (fun _ hR K hK => ?_)
    replace hF := And.intro (hF1 _ _ hR hF.1) (hR.live hF.2)
    clear hR
    go_simp
    try (unfold stored; go_simp)
    try go_ints
    refine hK _ _ (M, []) (by rw [listed_nil (by simp [go_sem, *])]; exact hT.idle _ _) ?_
    clear hK K
    try walk_nrm
    try w_num
    refine t_op hT rfl (by rfl) (by first | decide | assumption) (by first | rfl | (rw [hro]; rfl)) (fun _ hR K hK => ?_)
    replace hF := And.intro (hF1 _ _ hR hF.1) (hR.live hF.2)
    clear hR
    go_simp
    try (unfold stored; go_simp)
    try go_ints
    refine hK _ _ (M, []) (by rw [listed_nil (by simp [go_sem, *])]; exact hT.idle _ _) ?_
    clear hK K
    try walk_nrm
    try w_num
    refine t_op hT rfl (by rfl) (by first | decide | assumption) (by first | rfl | (rw [hro]; rfl)) (fun _ hR K hK => ?_)
    replace hF := And.intro (hF1 _ _ hR hF.1) (hR.live hF.2)
    clear hR
    go_simp
    try (unfold stored; go_simp)
    try go_ints
    refine hK _ _ (M, []) (by rw [listed_nil (by simp [go_sem, *])]; exact hT.idle _ _) ?_
    clear hK K
    try walk_nrm
    try w_num
    refine t_op hT rfl (by rfl) (by first | decide | assumption) (by first | rfl | (rw [hro]; rfl)) (fun _ hR K hK => ?_)
    replace hF := And.intro (hF1 _ _ hR hF.1) (hR.live hF.2)
    clear hR
    go_simp
    try (unfold stored; go_simp)
    try go_ints
    refine hK _ _ (M, []) (by rw [listed_nil (by simp [go_sem, *])]; exact hT.idle _ _) ?_
    clear hK K
    try walk_nrm
    try w_num
    refine t_op hT rfl (by rfl) (by first | decide | assumption) (by first | rfl | (rw [hro]; rfl)) (fun _ hR K hK => ?_)
    replace hF := And.intro (hF1 _ _ hR hF.1) (hR.live hF.2)
    clear hR
    go_simp
    try (unfold stored; go_simp)
    try go_ints
    refine hK _ _ (M, []) (by rw [listed_nil (by simp [go_sem, *])]; exact hT.idle _ _) ?_
    clear hK K
    try walk_nrm
    try w_num
    refine t_op hT rfl (by rfl) (by first | decide | assumption) (by first | rfl | (rw [hro]; rfl)) (fun _ hR K hK => ?_)
    replace hF := And.intro (hF1 _ _ hR hF.1) (hR.live hF.2)
    clear hR
    go_simp
    try (unfold stored; go_simp)
    try go_ints
    refine hK _ _ (M, []) (by rw [listed_nil (by simp [go_sem, *])]; exact hT.idle _ _) ?_
    clear hK K
    try walk_nrm
    try w_num
    refine t_op hT rfl (by rfl) (by first | decide | assumption) (by first | rfl | (rw [hro]; rfl)) (fun _ hR K hK => ?_)
    replace hF := And.intro (hF1 _ _ hR hF.1) (hR.live hF.2)
    clear hR
    go_simp
    try (unfold stored; go_simp)
    try go_ints
    refine hK _ _ (M, []) (by rw [listed_nil (by simp [go_sem, *])]; exact hT.idle _ _) ?_
    clear hK K
    try walk_nrm
    try w_num
    repeat (first | refine t_seq hT ?_ | refine t_block hT ?_ | refine t_skip hT ?_ | refine t_inBlock hT ?_ | refine t_rend hT ?_ | refine t_exit hT rfl ?_)
    refine t_cond hT (t := true) (by first | rfl | (simp [Act.eval]; omega)) ?_
    simp only [if_true, if_false, reduceIte, Bool.false_eq_true]
    refine t_region hT [0, 1, 2, 3, 4] rfl ?_
    refine t_op hT rfl (by rfl) (by first | decide | assumption) (by first | rfl | (rw [hro]; rfl)) (fun _ hR K hK => ?_)
    replace hF := And.intro (hF1 _ _ hR hF.1) (hR.live hF.2)
    clear hR
    go_simp
    try (unfold stored; go_simp)
    try go_ints
    refine hK _ _ (M, []) (by rw [listed_nil (by simp [go_sem, *])]; exact hT.idle _ _) ?_
    clear hK K
    try walk_nrm
    try w_num
    refine t_op hT rfl (by rfl) (by first | decide | assumption) (by first | rfl | (rw [hro]; rfl)) (fun _ hR K hK => ?_)
    replace hF := And.intro (hF1 _ _ hR hF.1) (hR.live hF.2)
    clear hR
    go_simp
    try (unfold stored; go_simp)
    try go_ints
    refine hK _ _ (M, []) (by rw [listed_nil (by simp [go_sem, *])]; exact hT.idle _ _) ?_
    clear hK K
    try walk_nrm
    try w_num
    refine t_op hT rfl (by rfl) (by first | decide | assumption) (by first | rfl | (rw [hro]; rfl)) (fun _ hR K hK => ?_)
    replace hF := And.intro (hF1 _ _ hR hF.1) (hR.live hF.2)
    clear hR
    go_simp
    try (unfold stored; go_simp)
    try go_ints
    refine hK _ _ (M, []) (by rw [listed_nil (by simp [go_sem, *])]; exact hT.idle _ _) ?_
    clear hK K
    try walk_nrm
    try w_num
    refine t_op hT rfl (by rfl) (by first | decide | assumption) (by first | rfl | (rw [hro]; rfl)) (fun w₁ hR K hK => ?_)
    replace hF := And.intro (hF1 _ _ hR hF.1) (hR.live hF.2)
    clear hR
    have hcv := run_convert_to_unsafe (P := P) H.underlying_tPU32 H.underlying_tUP H.room_tU32 (WgLive.cell1 hF.2).choose_spec
    have hce := fun es => events_convert_to_unsafe (P := P) H.underlying_tPU32 H.underlying_tUP H.room_tU32 (WgLive.cell1 hF.2).choose_spec es
    go_simp
    refine hK _ _ (M, []) (by rw [listed_nil (by simp [go_sem, *])]; exact hT.idle _ _) ?_
    clear hK K hcv hce
    try walk_nrm
    refine hT.step rfl fun w₃ hR => ⟨_, _, _, (M, []), stepG_markAt .read (by simp) rfl rfl (base_kind _) rfl H.f_raceRead (x_raceRead_n L) (x_raceRead_b L) (x_raceRead_x L) (x_raceRead_f L) (ad := ⟨Wg, 1, none⟩) (by simp [Act.eval]), dg_said (fun e he => ⟨⟨Wg, 1, none⟩, rfl, .inl (by simpa using he)⟩), ?_⟩
    replace hF := And.intro (hF1 _ _ hR hF.1) (hR.live hF.2)
    clear hR
    walk_nrm
    change TM P true L.tWg Wg S (StKe P L.tWg Wg C n LW Rw S j ls Kx c) (M, []) (G ((base L.add).atR _ _) _) _
    repeat (first | refine t_seq hT ?_ | refine t_block hT ?_ | refine t_skip hT ?_ | refine t_inBlock hT ?_ | refine t_rend hT ?_ | refine t_exit hT rfl ?_)
    refine t_region hT [0, 1] rfl ?_
    refine t_op hT rfl (by rfl) (by first | decide | assumption) (by first | rfl | (rw [hro]; rfl)) (fun _ hR K hK => ?_)
    replace hF := And.intro (hF1 _ _ hR hF.1) (hR.live hF.2)
    clear hR
    go_simp
    try (unfold stored; go_simp)
    try go_ints
    refine hK _ _ (M, []) (by rw [listed_nil (by simp [go_sem, *])]; exact hT.idle _ _) ?_
    clear hK K
    try walk_nrm
    try w_num
    refine t_op hT rfl (by rfl) (by first | decide | assumption) (by first | rfl | (rw [hro]; rfl)) (fun _ hR K hK => ?_)
    replace hF := And.intro (hF1 _ _ hR hF.1) (hR.live hF.2)
    clear hR
    go_simp
    try (unfold stored; go_simp)
    try go_ints
    refine hK _ _ (M, []) (by rw [listed_nil (by simp [go_sem, *])]; exact hT.idle _ _) ?_
    clear hK K
    try walk_nrm
    try w_num
    repeat (first | refine t_seq hT ?_ | refine t_block hT ?_ | refine t_skip hT ?_ | refine t_inBlock hT ?_ | refine t_rend hT ?_ | refine t_exit hT rfl ?_)
    refine t_cond hT (t := false) (by first | rfl | (simp [Act.eval]; omega)) ?_
    simp only [if_true, if_false, reduceIte, Bool.false_eq_true]
    repeat (first | refine t_seq hT ?_ | refine t_block hT ?_ | refine t_skip hT ?_ | refine t_inBlock hT ?_ | refine t_rend hT ?_ | refine t_exit hT rfl ?_)
    refine t_region hT [0, 1, 2, 3, 4, 5, 6, 7, 8, 9, 10, 11] rfl ?_
    refine t_op hT rfl (by rfl) (by first | decide | assumption) (by first | rfl | (rw [hro]; rfl)) (fun _ hR K hK => ?_)
    replace hF := And.intro (hF1 _ _ hR hF.1) (hR.live hF.2)
    clear hR
    go_simp
    try (unfold stored; go_simp)
    try go_ints
    refine hK _ _ (M, []) (by rw [listed_nil (by simp [go_sem, *])]; exact hT.idle _ _) ?_
    clear hK K
    try walk_nrm
    try w_num
    refine t_op hT rfl (by rfl) (by first | decide | assumption) (by first | rfl | (rw [hro]; rfl)) (fun _ hR K hK => ?_)
    replace hF := And.intro (hF1 _ _ hR hF.1) (hR.live hF.2)
    clear hR
    go_simp
    try (unfold stored; go_simp)
    try go_ints
    refine hK _ _ (M, []) (by rw [listed_nil (by simp [go_sem, *])]; exact hT.idle _ _) ?_
    clear hK K
    try walk_nrm
    try w_num
    refine t_op hT rfl (by rfl) (by first | decide | assumption) (by first | rfl | (rw [hro]; rfl)) (fun _ hR K hK => ?_)
    replace hF := And.intro (hF1 _ _ hR hF.1) (hR.live hF.2)
    clear hR
    go_simp
    try (unfold stored; go_simp)
    try go_ints
    refine hK _ _ (M, []) (by rw [listed_nil (by simp [go_sem, *])]; exact hT.idle _ _) ?_
    clear hK K
    try walk_nrm
    try w_num
    refine t_un hT rfl (by rfl) ?_
    try walk_nrm
    refine t_un hT rfl (by rfl) ?_
    try walk_nrm
    refine t_op hT rfl (by rfl) (by first | decide | assumption) (by first | rfl | (rw [hro]; rfl)) (fun _ hR K hK => ?_)
    replace hF := And.intro (hF1 _ _ hR hF.1) (hR.live hF.2)
    clear hR
    go_simp
    try (unfold stored; go_simp)
    try go_ints
    refine hK _ _ (M, []) (by rw [listed_nil (by simp [go_sem, *])]; exact hT.idle _ _) ?_
    clear hK K
    try walk_nrm
    try w_num
    refine t_op hT rfl (by rfl) (by first | decide | assumption) (by first | rfl | (rw [hro]; rfl)) (fun _ hR K hK => ?_)
    replace hF := And.intro (hF1 _ _ hR hF.1) (hR.live hF.2)
    clear hR
    go_simp
    try (unfold stored; go_simp)
    try go_ints
    refine hK _ _ (M, []) (by rw [listed_nil (by simp [go_sem, *])]; exact hT.idle _ _) ?_
    clear hK K
    try walk_nrm
    try w_num
    refine t_un hT rfl (by rfl) ?_
    try walk_nrm
    refine t_un hT rfl (by rfl) ?_
    try walk_nrm
    refine t_un hT rfl (by rfl) ?_
    try walk_nrm
    refine t_un hT rfl (by rfl) ?_
    try walk_nrm
    refine t_op hT rfl (by rfl) (by first | decide | assumption) (by first | rfl | (rw [hro]; rfl)) (fun _ hR K hK => ?_)
    replace hF := And.intro (hF1 _ _ hR hF.1) (hR.live hF.2)
    clear hR
    go_simp
    try (unfold stored; go_simp)
    try go_ints
    refine hK _ _ (M, []) (by rw [listed_nil (by simp [go_sem, *])]; exact hT.idle _ _) ?_
    clear hK K
    try walk_nrm
    try w_num
    repeat (first | refine t_seq hT ?_ | refine t_block hT ?_ | refine t_skip hT ?_ | refine t_inBlock hT ?_ | refine t_rend hT ?_ | refine t_exit hT rfl ?_)
    refine t_cond hT (t := false) (by first | rfl | (simp [Act.eval]; omega)) ?_
    simp only [if_true, if_false, reduceIte, Bool.false_eq_true]
    repeat (first | refine t_seq hT ?_ | refine t_block hT ?_ | refine t_skip hT ?_ | refine t_inBlock hT ?_ | refine t_rend hT ?_ | refine t_exit hT rfl ?_)
    refine t_region hT [0, 1, 2, 3, 4, 5] rfl ?_
    refine t_op hT rfl (by rfl) (by first | decide | assumption) (by first | rfl | (rw [hro]; rfl)) (fun _ hR K hK => ?_)
    replace hF := And.intro (hF1 _ _ hR hF.1) (hR.live hF.2)
    clear hR
    go_simp
    try (unfold stored; go_simp)
    try go_ints
    refine hK _ _ (M, []) (by rw [listed_nil (by simp [go_sem, *])]; exact hT.idle _ _) ?_
    clear hK K
    try walk_nrm
    try w_num
    refine t_op hT rfl (by rfl) (by first | decide | assumption) (by first | rfl | (rw [hro]; rfl)) (fun _ hR K hK => ?_)
    replace hF := And.intro (hF1 _ _ hR hF.1) (hR.live hF.2)
    clear hR
    go_simp
    try (unfold stored; go_simp)
    try go_ints
    refine hK _ _ (M, []) (by rw [listed_nil (by simp [go_sem, *])]; exact hT.idle _ _) ?_
    clear hK K
    try walk_nrm
    try w_num
    refine t_op hT rfl (by rfl) (by first | decide | assumption) (by first | rfl | (rw [hro]; rfl)) (fun _ hR K hK => ?_)
    replace hF := And.intro (hF1 _ _ hR hF.1) (hR.live hF.2)
    clear hR
    go_simp
    try (unfold stored; go_simp)
    try go_ints
    refine hK _ _ (M, []) (by rw [listed_nil (by simp [go_sem, *])]; exact hT.idle _ _) ?_
    clear hK K
    try walk_nrm
    try w_num
    refine t_un hT rfl (by rfl) ?_
    try walk_nrm
    refine t_un hT rfl (by rfl) ?_
    try walk_nrm
    refine t_op hT rfl (by rfl) (by first | decide | assumption) (by first | rfl | (rw [hro]; rfl)) (fun _ hR K hK => ?_)
    replace hF := And.intro (hF1 _ _ hR hF.1) (hR.live hF.2)
    clear hR
    go_simp
    try (unfold stored; go_simp)
    try go_ints
    refine hK _ _ (M, []) (by rw [listed_nil (by simp [go_sem, *])]; exact hT.idle _ _) ?_
    clear hK K
    try walk_nrm
    try w_num
    repeat (first | refine t_seq hT ?_ | refine t_block hT ?_ | refine t_skip hT ?_ | refine t_inBlock hT ?_ | refine t_rend hT ?_ | refine t_exit hT rfl ?_)
    refine t_cond hT (t := true) (by first | rfl | (simp [Act.eval]; omega)) ?_
    simp only [if_true, if_false, reduceIte, Bool.false_eq_true]
    refine t_retM hT hro ?_
    refine tm_stop fun w₃ hR => ⟨rfl, _, stepG_unwind_entry (v := .tuple #[]) (evs := #[⟨.mark .enable, false, true⟩]) rfl H.f_enable (x_enable_n L) (x_enable_b L) (x_enable_x L) (x_enable_f L) (by simp [Extern.Race.none_]) (by simp) (by simp), ?_⟩
    replace hF := And.intro (hF1 _ _ hR hF.1) (hR.live hF.2)
    clear hR hT
    have hT := clo_m (P := P) (main := true) (ty := L.tWg) (Wg := Wg) (S := S) (Stop := StGo P L.tWg Wg C n LW Rw S j ls Kx c)
    refine t_leave (y := (M, [])) (b := base L.add) hT hro rfl rfl H.f_add (resultsC_none (by rfl) _) ?_
    rw [Frame.finish_atR]
    exact hc _ hF.1 hF.2
  · -- IT IS MORE
    obtain ⟨V, hV⟩ : ∃ V : Int, V = (v : Int) + 1 := ⟨_, rfl⟩
    obtain ⟨Z, hZ⟩ : ∃ Z : Int, Z = V * KK := ⟨_, rfl⟩
    have eS : IntKind.u64.wrap ((v : Int) * KK + 4294967296) = Z := by rw [IntKind.wrap_u64, hZ, hV]; simp only [KK]; omega
    rw [← hV, ← hZ]
    have a1 : Z / 4294967296 = V := by rw [hZ]; simp only [KK]; omega
    have b1 : bits .and .u64 Z 2147483648 = 0 := by rw [hZ, hV]; have := st_flag (v + 1) 0 (by omega) (by omega); simpa [KK] using this
    have b2 : bits .and .u64 Z 2147483647 = 0 := by rw [hZ, hV]; have := st_waiters (v + 1) 0 (by omega) (by omega); simpa [KK] using this
    have c1 : IntKind.i32.wrap V = V := by rw [IntKind.wrap_i32]; omega
    have hV1 : 1 < V := by omega
    have hV2 : V < 2147483648 := by omega
    have q1 : (V == 1) = false := by simp; omega
    have q2 : decide (V = 1) = false := decide_eq_false (by omega)
    have q3 : decide (V < 0) = false := decide_eq_false (by omega)
    have q4 : decide (0 < V) = true := decide_eq_true (by omega)
    have q5 : (V == 0) = false := by simp; omega
    have q6 : decide (V = 0) = false := decide_eq_false (by omega)
    refine ⟨_, (stepG_add_atomic rfl rfl (base_kind _) rfl H.f_addU64 (x_addU64_n L) (x_addU64_b L) (x_addU64_x L) .u64 (x_addU64_f L) rfl rfl hw.cellSt (hw.thaw 0)).trans (by rw [eS]; rfl), ?_⟩
    replace hF : F (w₂.setCell (stA Wg) (.int .u64 Z)) ∧ WgLive L.tWg Wg (w₂.setCell (stA Wg) (.int .u64 Z)) := ⟨hF2 _ _ hF.1 ⟨_, _, hw.setSt _⟩, ⟨_, _, hw.setSt _⟩⟩
    clear hw hZ hV eS
    walk_nrm
    have hT := clo_m (P := P) (main := true) (ty := L.tWg) (Wg := Wg) (S := S) (Stop := StKe P L.tWg Wg C n LW Rw S j ls Kx c)
    change TM P true L.tWg Wg S (StKe P L.tWg Wg C n LW Rw S j ls Kx c) (M, []) (G ((base L.uAdd).atR _ _) _) _
    refine t_op hT rfl (by rfl) (by first | decide | assumption) (by first | rfl | (rw [hro]; rfl)) (fun _ hR K hK => ?_)
    replace hF := And.intro (hF1 _ _ hR hF.1) (hR.live hF.2)
    clear hR
    go_simp
    try (unfold stored; go_simp)
    try go_ints
    refine hK _ _ (M, []) (by rw [listed_nil (by simp [go_sem, *])]; exact hT.idle _ _) ?_
    clear hK K
    try walk_nrm
    try w_num
    repeat (first | refine t_seq hT ?_ | refine t_block hT ?_ | refine t_skip hT ?_ | refine t_inBlock hT ?_ | refine t_rend hT ?_ | refine t_exit hT rfl ?_)
    refine t_ret hT rfl rfl rfl H.f_uAdd (resultsC_tmp (by rfl) _) ?_
    rw [Frame.finish_atR]
    try walk_nrm
    refine t_op hT rfl (by rfl) (by first | decide | assumption) (by first | rfl | (rw [hro]; rfl)) (fun _ hR K hK => ?_)
    replace hF := And.intro (hF1 _ _ hR hF.1) (hR.live hF.2)
    clear hR
    go_simp
    try (unfold stored; go_simp)
    try go_ints
    refine hK _ _ (M, []) (by rw [listed_nil (by simp [go_sem, *])]; exact hT.idle _ _) ?_
    clear hK K
    try walk_nrm
    try w_num
    repeat (first | refine t_seq hT ?_ | refine t_block hT ?_ | refine t_skip hT ?_ | refine t_inBlock hT ?_ | refine t_rend hT ?_ | refine t_exit hT rfl ?_)
    refine t_region hT [0, 1, 2, 3, 4, 5, 6] rfl ?_
    refine t_op hT rfl (by rfl) (by first | decide | assumption) (by first | rfl | (rw [hro]; rfl)) (fun _ hR K hK => ?_)
    replace hF := And.intro (hF1 _ _ hR hF.1) (hR.live hF.2)
    clear hR
    go_simp
    try (unfold stored; go_simp)
    try go_ints
    refine hK _ _ (M, []) (by rw [listed_nil (by simp [go_sem, *])]; exact hT.idle _ _) ?_
    clear hK K
    try walk_nrm
    try w_num
    refine t_op hT rfl (by rfl) (by first | decide | assumption) (by first | rfl | (rw [hro]; rfl)) (fun _ hR K hK => ?_)
    replace hF := And.intro (hF1 _ _ hR hF.1) (hR.live hF.2)
    clear hR
    go_simp
    try (unfold stored; go_simp)
    try go_ints
    refine hK _ _ (M, []) (by rw [listed_nil (by simp [go_sem, *])]; exact hT.idle _ _) ?_
    clear hK K
    try walk_nrm
    try w_num
    refine t_op hT rfl (by rfl) (by first | decide | assumption) (by first | rfl | (rw [hro]; rfl)) (fun _ hR K hK => ?_)
    replace hF := And.intro (hF1 _ _ hR hF.1) (hR.live hF.2)
    clear hR
    go_simp
    try (unfold stored; go_simp)
    try go_ints
    refine hK _ _ (M, []) (by rw [listed_nil (by simp [go_sem, *])]; exact hT.idle _ _) ?_
    clear hK K
    try walk_nrm
    try w_num
    refine t_op hT rfl (by rfl) (by first | decide | assumption) (by first | rfl | (rw [hro]; rfl)) (fun _ hR K hK => ?_)
    replace hF := And.intro (hF1 _ _ hR hF.1) (hR.live hF.2)
    clear hR
    go_simp
    try (unfold stored; go_simp)
    try go_ints
    refine hK _ _ (M, []) (by rw [listed_nil (by simp [go_sem, *])]; exact hT.idle _ _) ?_
    clear hK K
    try walk_nrm
    try w_num
    refine t_un hT rfl (by rfl) ?_
    try walk_nrm
    refine t_un hT rfl (by rfl) ?_
    try walk_nrm
    refine t_op hT rfl (by rfl) (by first | decide | assumption) (by first | rfl | (rw [hro]; rfl)) (fun _ hR K hK => ?_)
    replace hF := And.intro (hF1 _ _ hR hF.1) (hR.live hF.2)
    clear hR
    go_simp
    try (unfold stored; go_simp)
    try go_ints
    refine hK _ _ (M, []) (by rw [listed_nil (by simp [go_sem, *])]; exact hT.idle _ _) ?_
    clear hK K
    try walk_nrm
    try w_num
    repeat (first | refine t_seq hT ?_ | refine t_block hT ?_ | refine t_skip hT ?_ | refine t_inBlock hT ?_ | refine t_rend hT ?_ | refine t_exit hT rfl ?_)
    refine t_cond hT (t := false) (by first | rfl | (simp [Act.eval]; omega)) ?_
    simp only [if_true, if_false, reduceIte, Bool.false_eq_true]
    repeat (first | refine t_seq hT ?_ | refine t_block hT ?_ | refine t_skip hT ?_ | refine t_inBlock hT ?_ | refine t_rend hT ?_ | refine t_exit hT rfl ?_)
    refine t_region hT [0, 1, 2, 3] rfl ?_
    refine t_op hT rfl (by rfl) (by first | decide | assumption) (by first | rfl | (rw [hro]; rfl)) (fun _ hR K hK => ?_)
    replace hF := And.intro (hF1 _ _ hR hF.1) (hR.live hF.2)
    clear hR
    go_simp
    try (unfold stored; go_simp)
    try go_ints
    refine hK _ _ (M, []) (by rw [listed_nil (by simp [go_sem, *])]; exact hT.idle _ _) ?_
    clear hK K
    try walk_nrm
    try w_num
    refine t_op hT rfl (by rfl) (by first | decide | assumption) (by first | rfl | (rw [hro]; rfl)) (fun _ hR K hK => ?_)
    replace hF := And.intro (hF1 _ _ hR hF.1) (hR.live hF.2)
    clear hR
    go_simp
    try (unfold stored; go_simp)
    try go_ints
    refine hK _ _ (M, []) (by rw [listed_nil (by simp [go_sem, *])]; exact hT.idle _ _) ?_
    clear hK K
    try walk_nrm
    try w_num
    refine t_op hT rfl (by rfl) (by first | decide | assumption) (by first | rfl | (rw [hro]; rfl)) (fun _ hR K hK => ?_)
    replace hF := And.intro (hF1 _ _ hR hF.1) (hR.live hF.2)
    clear hR
    go_simp
    try (unfold stored; go_simp)
    try go_ints
    refine hK _ _ (M, []) (by rw [listed_nil (by simp [go_sem, *])]; exact hT.idle _ _) ?_
    clear hK K
    try walk_nrm
    try w_num
    refine t_op hT rfl (by rfl) (by first | decide | assumption) (by first | rfl | (rw [hro]; rfl)) (fun _ hR K hK => ?_)
    replace hF := And.intro (hF1 _ _ hR hF.1) (hR.live hF.2)
    clear hR
    go_simp
    try (unfold stored; go_simp)
    try go_ints
    refine hK _ _ (M, []) (by rw [listed_nil (by simp [go_sem, *])]; exact hT.idle _ _) ?_
    clear hK K
    try walk_nrm
    try w_num
    repeat (first | refine t_seq hT ?_ | refine t_block hT ?_ | refine t_skip hT ?_ | refine t_inBlock hT ?_ | refine t_rend hT ?_ | refine t_exit hT rfl ?_)
    refine t_region hT [0, 1, 2, 3] rfl ?_
    refine t_op hT rfl (by rfl) (by first | decide | assumption) (by first | rfl | (rw [hro]; rfl)) (fun _ hR K hK => ?_)
    replace hF := And.intro (hF1 _ _ hR hF.1) (hR.live hF.2)
    clear hR
    go_simp
    try (unfold stored; go_simp)
    try go_ints
    refine hK _ _ (M, []) (by rw [listed_nil (by simp [go_sem, *])]; exact hT.idle _ _) ?_
    clear hK K
    try walk_nrm
    try w_num
    refine t_op hT rfl (by rfl) (by first | decide | assumption) (by first | rfl | (rw [hro]; rfl)) (fun _ hR K hK => ?_)
    replace hF := And.intro (hF1 _ _ hR hF.1) (hR.live hF.2)
    clear hR
    go_simp
    try (unfold stored; go_simp)
    try go_ints
    refine hK _ _ (M, []) (by rw [listed_nil (by simp [go_sem, *])]; exact hT.idle _ _) ?_
    clear hK K
    try walk_nrm
    try w_num
    refine t_op hT rfl (by rfl) (by first | decide | assumption) (by first | rfl | (rw [hro]; rfl)) (fun _ hR K hK => ?_)
    replace hF := And.intro (hF1 _ _ hR hF.1) (hR.live hF.2)
    clear hR
    go_simp
    try (unfold stored; go_simp)
    try go_ints
    refine hK _ _ (M, []) (by rw [listed_nil (by simp [go_sem, *])]; exact hT.idle _ _) ?_
    clear hK K
    try walk_nrm
    try w_num
    refine t_op hT rfl (by rfl) (by first | decide | assumption) (by first | rfl | (rw [hro]; rfl)) (fun _ hR K hK => ?_)
    replace hF := And.intro (hF1 _ _ hR hF.1) (hR.live hF.2)
    clear hR
    go_simp
    try (unfold stored; go_simp)
    try go_ints
    refine hK _ _ (M, []) (by rw [listed_nil (by simp [go_sem, *])]; exact hT.idle _ _) ?_
    clear hK K
    try walk_nrm
    try w_num
    repeat (first | refine t_seq hT ?_ | refine t_block hT ?_ | refine t_skip hT ?_ | refine t_inBlock hT ?_ | refine t_rend hT ?_ | refine t_exit hT rfl ?_)
    refine t_region hT [0, 1, 2, 3, 4, 5, 6, 7, 8, 9] rfl ?_
    refine t_op hT rfl (by rfl) (by first | decide | assumption) (by first | rfl | (rw [hro]; rfl)) (fun _ hR K hK => ?_)
    replace hF := And.intro (hF1 _ _ hR hF.1) (hR.live hF.2)
    clear hR
    go_simp
    try (unfold stored; go_simp)
    try go_ints
    refine hK _ _ (M, []) (by rw [listed_nil (by simp [go_sem, *])]; exact hT.idle _ _) ?_
    clear hK K
    try walk_nrm
    try w_num
    refine t_op hT rfl (by rfl) (by first | decide | assumption) (by first | rfl | (rw [hro]; rfl)) (fun _ hR K hK => ?_)
    replace hF := And.intro (hF1 _ _ hR hF.1) (hR.live hF.2)
    clear hR
    go_simp
    try (unfold stored; go_simp)
    try go_ints
    refine hK _ _ (M, []) (by rw [listed_nil (by simp [go_sem, *])]; exact hT.idle _ _) ?_
    clear hK K
    try walk_nrm
    try w_num
    refine t_op hT rfl (by rfl) (by first | decide | assumption) (by first | rfl | (rw [hro]; rfl)) (fun _ hR K hK => ?_)
    replace hF := And.intro (hF1 _ _ hR hF.1) (hR.live hF.2)
    clear hR
    go_simp
    try (unfold stored; go_simp)
    try go_ints
    refine hK _ _ (M, []) (by rw [listed_nil (by simp [go_sem, *])]; exact hT.idle _ _) ?_
    clear hK K
    try walk_nrm
    try w_num
    refine t_op hT rfl (by rfl) (by first | decide | assumption) (by first | rfl | (rw [hro]; rfl)) (fun _ hR K hK => ?_)
    replace hF := And.intro (hF1 _ _ hR hF.1) (hR.live hF.2)
    clear hR
    go_simp
    try (unfold stored; go_simp)
    try go_ints
    refine hK _ _ (M, []) (by rw [listed_nil (by simp [go_sem, *])]; exact hT.idle _ _) ?_
    clear hK K
    try walk_nrm
    try w_num
    refine t_op hT rfl (by rfl) (by first | decide | assumption) (by first | rfl | (rw [hro]; rfl)) (fun _ hR K hK => ?_)
    replace hF := And.intro (hF1 _ _ hR hF.1) (hR.live hF.2)
    clear hR
    go_simp
    try (unfold stored; go_simp)
    try go_ints
    refine hK _ _ (M, []) (by rw [listed_nil (by simp [go_sem, *])]; exact hT.idle _ _) ?_
    clear hK K
    try walk_nrm
    try w_num
    refine t_op hT rfl (by rfl) (by first | decide | assumption) (by first | rfl | (rw [hro]; rfl)) (fun _ hR K hK => ?_)
    replace hF := And.intro (hF1 _ _ hR hF.1) (hR.live hF.2)
    clear hR
    go_simp
    try (unfold stored; go_simp)
    try go_ints
    refine hK _ _ (M, []) (by rw [listed_nil (by simp [go_sem, *])]; exact hT.idle _ _) ?_
    clear hK K
    try walk_nrm
    try w_num
    refine t_op hT rfl (by rfl) (by first | decide | assumption) (by first | rfl | (rw [hro]; rfl)) (fun _ hR K hK => ?_)
    replace hF := And.intro (hF1 _ _ hR hF.1) (hR.live hF.2)
    clear hR
    go_simp
    try (unfold stored; go_simp)
    try go_ints
    refine hK _ _ (M, []) (by rw [listed_nil (by simp [go_sem, *])]; exact hT.idle _ _) ?_
    clear hK K
    try walk_nrm
    try w_num
    refine t_op hT rfl (by rfl) (by first | decide | assumption) (by first | rfl | (rw [hro]; rfl)) (fun _ hR K hK => ?_)
    replace hF := And.intro (hF1 _ _ hR hF.1) (hR.live hF.2)
    clear hR
    go_simp
    try (unfold stored; go_simp)
    try go_ints
    refine hK _ _ (M, []) (by rw [listed_nil (by simp [go_sem, *])]; exact hT.idle _ _) ?_
    clear hK K
    try walk_nrm
    try w_num
    refine t_op hT rfl (by rfl) (by first | decide | assumption) (by first | rfl | (rw [hro]; rfl)) (fun _ hR K hK => ?_)
    replace hF := And.intro (hF1 _ _ hR hF.1) (hR.live hF.2)
    clear hR
    go_simp
    try (unfold stored; go_simp)
    try go_ints
    refine hK _ _ (M, []) (by rw [listed_nil (by simp [go_sem, *])]; exact hT.idle _ _) ?_
    clear hK K
    try walk_nrm
    try w_num
    refine t_op hT rfl (by rfl) (by first | decide | assumption) (by first | rfl | (rw [hro]; rfl)) (fun _ hR K hK => ?_)
    replace hF := And.intro (hF1 _ _ hR hF.1) (hR.live hF.2)
    clear hR
    go_simp
    try (unfold stored; go_simp)
    try go_ints
    refine hK _ _ (M, []) (by rw [listed_nil (by simp [go_sem, *])]; exact hT.idle _ _) ?_
    clear hK K
    try walk_nrm
    try w_num
    repeat (first | refine t_seq hT ?_ | refine t_block hT ?_ | refine t_skip hT ?_ | refine t_inBlock hT ?_ | refine t_rend hT ?_ | refine t_exit hT rfl ?_)
    refine t_cond hT (t := false) (by first | rfl | (simp [Act.eval]; omega)) ?_
    simp only [if_true, if_false, reduceIte, Bool.false_eq_true]
    repeat (first | refine t_seq hT ?_ | refine t_block hT ?_ | refine t_skip hT ?_ | refine t_inBlock hT ?_ | refine t_rend hT ?_ | refine t_exit hT rfl ?_)
    refine t_region hT [0, 1] rfl ?_
    refine t_op hT rfl (by rfl) (by first | decide | assumption) (by first | rfl | (rw [hro]; rfl)) (fun _ hR K hK => ?_)
    replace hF := And.intro (hF1 _ _ hR hF.1) (hR.live hF.2)
    clear hR
    go_simp
    try (unfold stored; go_simp)
    try go_ints
    refine hK _ _ (M, []) (by rw [listed_nil (by simp [go_sem, *])]; exact hT.idle _ _) ?_
    clear hK K
    try walk_nrm
    try w_num
    refine t_op hT rfl (by rfl) (by first | decide | assumption) (by first | rfl | (rw [hro]; rfl)) (fun _ hR K hK => ?_)
    replace hF := And.intro (hF1 _ _ hR hF.1) (hR.live hF.2)
    clear hR
    go_simp
    try (unfold stored; go_simp)
    try go_ints
    refine hK _ _ (M, []) (by rw [listed_nil (by simp [go_sem, *])]; exact hT.idle _ _) ?_
    clear hK K
    try walk_nrm
    try w_num
    repeat (first | refine t_seq hT ?_ | refine t_block hT ?_ | refine t_skip hT ?_ | refine t_inBlock hT ?_ | refine t_rend hT ?_ | refine t_exit hT rfl ?_)
    refine t_cond hT (t := false) (by first | rfl | (simp [Act.eval]; omega)) ?_
    simp only [if_true, if_false, reduceIte, Bool.false_eq_true]
    repeat (first | refine t_seq hT ?_ | refine t_block hT ?_ | refine t_skip hT ?_ | refine t_inBlock hT ?_ | refine t_rend hT ?_ | refine t_exit hT rfl ?_)
    refine t_region hT [0, 1, 2, 3, 4, 5, 6, 7, 8, 9, 10, 11] rfl ?_
    refine t_op hT rfl (by rfl) (by first | decide | assumption) (by first | rfl | (rw [hro]; rfl)) (fun _ hR K hK => ?_)
    replace hF := And.intro (hF1 _ _ hR hF.1) (hR.live hF.2)
    clear hR
    go_simp
    try (unfold stored; go_simp)
    try go_ints
    refine hK _ _ (M, []) (by rw [listed_nil (by simp [go_sem, *])]; exact hT.idle _ _) ?_
    clear hK K
    try walk_nrm
    try w_num
    refine t_op hT rfl (by rfl) (by first | decide | assumption) (by first | rfl | (rw [hro]; rfl)) (fun _ hR K hK => ?_)
    replace hF := And.intro (hF1 _ _ hR hF.1) (hR.live hF.2)
    clear hR
    go_simp
    try (unfold stored; go_simp)
    try go_ints
    refine hK _ _ (M, []) (by rw [listed_nil (by simp [go_sem, *])]; exact hT.idle _ _) ?_
    clear hK K
    try walk_nrm
    try w_num
    refine t_op hT rfl (by rfl) (by first | decide | assumption) (by first | rfl | (rw [hro]; rfl)) (fun _ hR K hK => ?_)
    replace hF := And.intro (hF1 _ _ hR hF.1) (hR.live hF.2)
    clear hR
    go_simp
    try (unfold stored; go_simp)
    try go_ints
    refine hK _ _ (M, []) (by rw [listed_nil (by simp [go_sem, *])]; exact hT.idle _ _) ?_
    clear hK K
    try walk_nrm
    try w_num
    refine t_un hT rfl (by rfl) ?_
    try walk_nrm
    refine t_un hT rfl (by rfl) ?_
    try walk_nrm
    refine t_op hT rfl (by rfl) (by first | decide | assumption) (by first | rfl | (rw [hro]; rfl)) (fun _ hR K hK => ?_)
    replace hF := And.intro (hF1 _ _ hR hF.1) (hR.live hF.2)
    clear hR
    go_simp
    try (unfold stored; go_simp)
    try go_ints
    refine hK _ _ (M, []) (by rw [listed_nil (by simp [go_sem, *])]; exact hT.idle _ _) ?_
    clear hK K
    try walk_nrm
    try w_num
    refine t_op hT rfl (by rfl) (by first | decide | assumption) (by first | rfl | (rw [hro]; rfl)) (fun _ hR K hK => ?_)
    replace hF := And.intro (hF1 _ _ hR hF.1) (hR.live hF.2)
    clear hR
    go_simp
    try (unfold stored; go_simp)
    try go_ints
    refine hK _ _ (M, []) (by rw [listed_nil (by simp [go_sem, *])]; exact hT.idle _ _) ?_
    clear hK K
    try walk_nrm
    try w_num
    refine t_un hT rfl (by rfl) ?_
    try walk_nrm
    refine t_un hT rfl (by rfl) ?_
    try walk_nrm
    refine t_un hT rfl (by rfl) ?_
    try walk_nrm
    refine t_un hT rfl (by rfl) ?_
    try walk_nrm
    refine t_op hT rfl (by rfl) (by first | decide | assumption) (by first | rfl | (rw [hro]; rfl)) (fun _ hR K hK => ?_)
    replace hF := And.intro (hF1 _ _ hR hF.1) (hR.live hF.2)
    clear hR
    go_simp
    try (unfold stored; go_simp)
    try go_ints
    refine hK _ _ (M, []) (by rw [listed_nil (by simp [go_sem, *])]; exact hT.idle _ _) ?_
    clear hK K
    try walk_nrm
    try w_num
    repeat (first | refine t_seq hT ?_ | refine t_block hT ?_ | refine t_skip hT ?_ | refine t_inBlock hT ?_ | refine t_rend hT ?_ | refine t_exit hT rfl ?_)
    refine t_cond hT (t := false) (by first | rfl | (simp [Act.eval]; omega)) ?_
    simp only [if_true, if_false, reduceIte, Bool.false_eq_true]
    repeat (first | refine t_seq hT ?_ | refine t_block hT ?_ | refine t_skip hT ?_ | refine t_inBlock hT ?_ | refine t_rend hT ?_ | refine t_exit hT rfl ?_)
    refine t_region hT [0, 1, 2, 3, 4, 5] rfl ?_
    refine t_op hT rfl (by rfl) (by first | decide | assumption) (by first | rfl | (rw [hro]; rfl)) (fun _ hR K hK => ?_)
    replace hF := And.intro (hF1 _ _ hR hF.1) (hR.live hF.2)
    clear hR
    go_simp
    try (unfold stored; go_simp)
    try go_ints
    refine hK _ _ (M, []) (by rw [listed_nil (by simp [go_sem, *])]; exact hT.idle _ _) ?_
    clear hK K
    try walk_nrm
    try w_num
    refine t_op hT rfl (by rfl) (by first | decide | assumption) (by first | rfl | (rw [hro]; rfl)) (fun _ hR K hK => ?_)
    replace hF := And.intro (hF1 _ _ hR hF.1) (hR.live hF.2)
    clear hR
    go_simp
    try (unfold stored; go_simp)
    try go_ints
    refine hK _ _ (M, []) (by rw [listed_nil (by simp [go_sem, *])]; exact hT.idle _ _) ?_
    clear hK K
    try walk_nrm
    try w_num
    refine t_op hT rfl (by rfl) (by first | decide | assumption) (by first | rfl | (rw [hro]; rfl)) (fun _ hR K hK => ?_)
    replace hF := And.intro (hF1 _ _ hR hF.1) (hR.live hF.2)
    clear hR
    go_simp
    try (unfold stored; go_simp)
    try go_ints
    refine hK _ _ (M, []) (by rw [listed_nil (by simp [go_sem, *])]; exact hT.idle _ _) ?_
    clear hK K
    try walk_nrm
    try w_num
    refine t_un hT rfl (by rfl) ?_
    try walk_nrm
    refine t_un hT rfl (by rfl) ?_
    try walk_nrm
    refine t_op hT rfl (by rfl) (by first | decide | assumption) (by first | rfl | (rw [hro]; rfl)) (fun _ hR K hK => ?_)
    replace hF := And.intro (hF1 _ _ hR hF.1) (hR.live hF.2)
    clear hR
    go_simp
    try (unfold stored; go_simp)
    try go_ints
    refine hK _ _ (M, []) (by rw [listed_nil (by simp [go_sem, *])]; exact hT.idle _ _) ?_
    clear hK K
    try walk_nrm
    try w_num
    repeat (first | refine t_seq hT ?_ | refine t_block hT ?_ | refine t_skip hT ?_ | refine t_inBlock hT ?_ | refine t_rend hT ?_ | refine t_exit hT rfl ?_)
    refine t_cond hT (t := true) (by first | rfl | (simp [Act.eval]; omega)) ?_
    simp only [if_true, if_false, reduceIte, Bool.false_eq_true]
    refine t_retM hT hro ?_
    refine tm_stop fun w₃ hR => ⟨rfl, _, stepG_unwind_entry (v := .tuple #[]) (evs := #[⟨.mark .enable, false, true⟩]) rfl H.f_enable (x_enable_n L) (x_enable_b L) (x_enable_x L) (x_enable_f L) (by simp [Extern.Race.none_]) (by simp) (by simp), ?_⟩
    replace hF := And.intro (hF1 _ _ hR hF.1) (hR.live hF.2)
    clear hR hT
    have hT := clo_m (P := P) (main := true) (ty := L.tWg) (Wg := Wg) (S := S) (Stop := StGo P L.tWg Wg C n LW Rw S j ls Kx c)
    refine t_leave (y := (M, [])) (b := base L.add) hT hro rfl rfl H.f_add (resultsC_none (by rfl) _) ?_
    rw [Frame.finish_atR]
    exact hc _ hF.1 hF.2
variable {b : Frame} {a : Act} {k : List Item} {ops : Array Oper}
/-- .. called. -/
theorem t_addPos (H : WgLib P L) {i : Nat} {rest : List Nat} {o : Oper} {x : Operand} {ats : Array TypeId} (ho : ops[i]? = some o) (hw : Region.wanted o (yielded ops a.tmps) = true) (hk : b.kind ≠ .early) (hs : o.semAt b.roundOf a.eval = execOp a.eval o)
    (hop : o.op = .call { callee := .value (.func L.add), args := #[x, .const (.int .i64 1)], argTypes := ats }) (hx : a.eval x = .pointer (some ⟨Wg, 0, none⟩))
    (hF1 : ∀ w w₁, RG L.tWg Wg S (M, []) w w₁ → F w → F w₁) (hF2 : ∀ w v, F w → WgLive L.tWg Wg (w.setCell (stA Wg) v) → F (w.setCell (stA Wg) v)) (w : World) (hF : F w ∧ WgLive L.tWg Wg w)
    (hc : ∀ w, F w → WgLive L.tWg Wg w → TM P true L.tWg Wg S (StGo P L.tWg Wg C n LW Rw S j ls Kx c) (M, []) (G (b.atR (a.put o.dst (.tuple #[])) (.inRegion ops rest :: k)) cs) w) :
    TM P true L.tWg Wg S (StKd P L.tWg Wg C n LW Rw S j ls Kx c) (M, []) (G (b.atR a (.inRegion ops (i :: rest) :: k)) cs) w := by
  refine t_into (code := body_add L) clo_m ho hw hk hs hop H.f_add (nm_add L) rfl ?_
  have e : #[x, Operand.const (.int .i64 1)].map a.eval = #[.pointer (some ⟨Wg, 0, none⟩), .int .i64 1] := by have e1 : a.eval (.const (.int .i64 1)) = .int .i64 1 := rfl; simp only [List.map_toArray, List.map_cons, List.map_nil, hx, e1]
  rw [e]
  have e2 : (addFn L).ntmps - (#[Value.pointer (some ⟨Wg, 0, none⟩), Value.int .i64 1] : Array Value).size = 115 := rfl
  rw [e2]
  refine addPos_g H hF1 hF2 (fun w hF hl => ?_) w hF
  rw [ho]
  exact hc w hF hl
end
end Go.Proofs.Ytkbfcaaihellfaa
