/- Steps on the way to the law; each part says what it proves. -/
import Derived.Test.YtkbfcaaihellfaaU10
import Derived.Test.YtkbfcaaihellfaaU13
import Derived.Test.YtkbfcaaihellfaaU8
import Derived.Conc.WgGenN3
import Derived.Test.YtkbfcaaihellfaaU20

set_option linter.unusedSimpArgs false

/- (*WaitGroup).Wait, whatever its caller goes on to. -/
namespace Go.Proofs.Ytkbfcaaihellfaa
open Go.Conc Go.ConcN Go.ConcN.Gen Go.RowKit Go.Conc.Lib Go.ConcR.Gen
open Go.ConcR (KK wgBlock WgAt stA smA rd wr mk Payload Aside2 DC0)
set_option linter.unusedVariables false
set_option linter.unusedSectionVars false

theorem rk_carry [Payload] {ty : TypeId} {Wg C : Nat} {F : World → Prop} (hF2 : ∀ w w', Aside2 C Wg w w' → F w → F w') {w w₁ : World} {u : Unit} (h : F w ∧ WgLive ty Wg w) (r : RK ty Wg C u w w₁) : F w₁ ∧ WgLive ty Wg w₁ := ⟨hF2 _ _ (RC.aside r) h.1, RC.live r h.2⟩
theorem rb_carry {ty : TypeId} {Wg C : Nat} {F : World → Prop} (hF2 : ∀ w w', Aside2 C Wg w w' → F w → F w') {w w₁ : World} {u : Unit} (h : F w ∧ WgLive ty Wg w) (r : RA1 u w w₁) : F w₁ ∧ WgLive ty Wg w₁ := by
  obtain ⟨d, rfl⟩ := r
  exact ⟨hF2 w (w.at d) ⟨rfl, rfl, rfl, rfl, fun _ _ _ => rfl⟩ h.1, h.2⟩

section
variable [Payload] {L : WgLink} {P : Program} {Sb : Nat → Prop} {Post : Value → World → Prop} {Wg C n : Nat} {Own Rd : Nat → Loc → Prop} {Lw : Nat → Nat} {val : Nat → Value} {F : World → Prop}
  {b₀ : Frame} {a₀ : Act} {ops₀ : Array Oper} {i₀ : Nat} {rest₀ : List Nat} {k₀ : List Item} {cs : List Frame}
set_option maxRecDepth 100000 in
set_option maxHeartbeats 8000000 in
theorem wait_round (H : WgLib P L) (A : ApS Sb n (ShN Wg) Own Rd) (Gg : Geo Wg C Lw) (hn : n < 2147483648) (hF2 : ∀ w w', Aside2 C Wg w w' → F w → F w')
    (hc : ∀ w, F w → WgLive L.tWg Wg w → LA P (Sw Sb Wg) Post () (G (b₀.atR (a₀.put ((ops₀[i₀]?).bind (·.dst)) (.tuple #[])) (.inRegion ops₀ rest₀ :: k₀)) cs) w) :
    ∀ (V : Nat) (T : Array Value) (w : World), T.size = 84 → T[0]? = some (.pointer (some ⟨Wg, 0, none⟩)) → F w ∧ WgLive L.tWg Wg w →
    TK P Sb Post L.tWg Wg C n Own Rd Lw val .anch 1 V () (G ((base L.wait).atR ⟨T, []⟩ [.code (L7 L), .inLoop (L7 L), .inBlock 0]) (b₀.atR a₀ (.inRegion ops₀ (i₀ :: rest₀) :: k₀) :: cs)) w := by
  lib_facts
  intro V
  induction V using Nat.strongRecOn with
  | ind V ih => ?_
  intro T w hT84 t0 hF
  obtain ⟨v0, v1, v2, v3, v4, v5, v6, v7, v8, v9, v10, v11, v12, v13, v14, v15, v16, v17, v18, v19, v20, v21, v22, v23, v24, v25, v26, v27, v28, v29, v30, v31, v32, v33, v34, v35, v36, v37, v38, v39, v40, v41, v42, v43, v44, v45, v46, v47, v48, v49, v50, v51, v52, v53, v54, v55, v56, v57, v58, v59, v60, v61, v62, v63, v64, v65, v66, v67, v68, v69, v70, v71, v72, v73, v74, v75, v76, v77, v78, v79, v80, v81, v82, v83, rfl⟩ := array84 T hT84
  simp only [List.getElem?_toArray, List.getElem?_cons_zero, Option.some.injEq] at t0
  subst t0
  have hT := clo_tk (P := P) (Sb := Sb) (Post := Post) (ty := L.tWg) (val := val) (tag := .anch) (d0 := 1) (V := V) A Gg hn rfl (by simp)
  have hk2 : (base L.wait).kind ≠ .early := by simp [base]
  have hro : (base L.wait).roundOf = none := rfl
  simp only [L7, body_wait, waitFn, Option.getD_some]
  repeat (first | refine t_seq hT ?_ | refine t_block hT ?_ | refine t_skip hT ?_ | refine t_inBlock hT ?_ | refine t_rend hT ?_ | refine t_exit hT rfl ?_)
  refine t_region hT _ rfl ?_
  simp only [List.size_toArray, List.length_cons, List.length_nil, Nat.reduceAdd, Nat.zero_add, List.range, List.range.loop]
  refine t_op hT rfl (by rfl) (by first | decide | assumption) (by first | rfl | (rw [hro]; rfl)) (fun _ hR K hK => ?_)
  replace hF := rk_carry hF2 hF hR
  clear hR
  go_simp
  try (unfold stored; go_simp)
  try go_ints
  refine hK _ _ () (by rw [listed_nil (by simp [go_sem, *])]; exact hT.idle _ _) ?_
  clear hK K
  try walk_nrm
  try w_num
  refine t_op hT rfl (by rfl) (by first | decide | assumption) (by first | rfl | (rw [hro]; rfl)) (fun _ hR K hK => ?_)
  replace hF := rk_carry hF2 hF hR
  clear hR
  go_simp
  try (unfold stored; go_simp)
  try go_ints
  refine hK _ _ () (by rw [listed_nil (by simp [go_sem, *])]; exact hT.idle _ _) ?_
  clear hK K
  try walk_nrm
  try w_num
  refine t_op hT rfl (by rfl) (by first | decide | assumption) (by first | rfl | (rw [hro]; rfl)) (fun _ hR K hK => ?_)
  replace hF := rk_carry hF2 hF hR
  clear hR
  go_simp
  try (unfold stored; go_simp)
  try go_ints
  refine hK _ _ () (by rw [listed_nil (by simp [go_sem, *])]; exact hT.idle _ _) ?_
  clear hK K
  try walk_nrm
  try w_num
  refine t_into hT rfl (by rfl) (by first | decide | assumption | exact base_kind _ | exact baseD_kind _) (by first | rfl | (rw [hro]; rfl)) rfl H.f_uLoad (nm_uLoad L) rfl ?_
  walk_nrmf uLoadFn
  repeat (first | refine t_seq hT ?_ | refine t_block hT ?_ | refine t_skip hT ?_ | refine t_inBlock hT ?_ | refine t_rend hT ?_ | refine t_exit hT rfl ?_)
  refine t_region hT _ rfl ?_
  simp only [List.size_toArray, List.length_cons, List.length_nil, Nat.reduceAdd, Nat.zero_add, List.range, List.range.loop]
  refine t_op hT rfl (by rfl) (by first | decide | assumption) (by first | rfl | (rw [hro]; rfl)) (fun _ hR K hK => ?_)
  replace hF := rk_carry hF2 hF hR
  clear hR
  go_simp
  try (unfold stored; go_simp)
  try go_ints
  refine hK _ _ () (by rw [listed_nil (by simp [go_sem, *])]; exact hT.idle _ _) ?_
  clear hK K
  try walk_nrm
  try w_num
  repeat (first | refine t_seq hT ?_ | refine t_block hT ?_ | refine t_skip hT ?_ | refine t_inBlock hT ?_ | refine t_rend hT ?_ | refine t_exit hT rfl ?_)
  refine t_region hT _ rfl ?_
  simp only [List.size_toArray, List.length_cons, List.length_nil, Nat.reduceAdd, Nat.zero_add, List.range, List.range.loop]
  refine t_op hT rfl (by rfl) (by first | decide | assumption) (by first | rfl | (rw [hro]; rfl)) (fun _ hR K hK => ?_)
  replace hF := rk_carry hF2 hF hR
  clear hR
  go_simp
  try (unfold stored; go_simp)
  try go_ints
  refine hK _ _ () (by rw [listed_nil (by simp [go_sem, *])]; exact hT.idle _ _) ?_
  clear hK K
  try walk_nrm
  try w_num
  refine t_op hT rfl (by rfl) (by first | decide | assumption) (by first | rfl | (rw [hro]; rfl)) (fun _ hR K hK => ?_)
  replace hF := rk_carry hF2 hF hR
  clear hR
  go_simp
  try (unfold stored; go_simp)
  try go_ints
  refine hK _ _ () (by rw [listed_nil (by simp [go_sem, *])]; exact hT.idle _ _) ?_
  clear hK K
  try walk_nrm
  try w_num
  refine t_op hT rfl (by rfl) (by first | decide | assumption) (by first | rfl | (rw [hro]; rfl)) (fun _ hR K hK => ?_)
  replace hF := rk_carry hF2 hF hR
  clear hR
  go_simp
  try (unfold stored; go_simp)
  try go_ints
  refine hK _ _ () (by rw [listed_nil (by simp [go_sem, *])]; exact hT.idle _ _) ?_
  clear hK K
  try walk_nrm
  try w_num
  refine tk_book A Gg hn rfl (by simp) rfl fun w₁ D st sm hR hw hm hv => ?_
  replace hF := rk_carry (u := ()) hF2 hF hR
  clear hR hT
  obtain ⟨ho, rfl, rfl, hx⟩ := hm.open_inv trivial
  clear hx
  rcases Nat.eq_zero_or_pos (Vc n D) with h0 | hvp
  · -- THE LOAD READS 0
    replace hw : WgAt L.tWg Wg w₁ 0 0 := by simpa [h0, pend] using hw
    refine ⟨_, w₁, #[rd (stA Wg)], .ke, 0, 0, 0, stepG_load_atomic (v := 0) rfl rfl (base_kind _) rfl H.f_loadU64 (x_loadU64_n L) (x_loadU64_b L) (x_loadU64_x L) .u64 (x_loadU64_f L) rfl hw.cellSt, .refl Wg w₁, bk_rd, hw, .fin trivial (allQuit_of ho h0), Nat.le_of_eq h0, ?_⟩
    clear hw hm hv ho h0 D
    have hT := clo_tk (P := P) (Sb := Sb) (Post := Post) (ty := L.tWg) (val := val) (tag := .ke) (d0 := 1) (V := 0) A Gg hn rfl (by simp)
    walk_nrm
    change TK P Sb Post L.tWg Wg C n Own Rd Lw val .ke 1 0 () (G ((base L.uLoad).atR _ _) _) _
    refine t_op hT rfl (by rfl) (by first | decide | assumption) (by first | rfl | (rw [hro]; rfl)) (fun _ hR K hK => ?_)
    replace hF := rk_carry hF2 hF hR
    clear hR
    go_simp
    try (unfold stored; go_simp)
    try go_ints
    refine hK _ _ () (by rw [listed_nil (by simp [go_sem, *])]; exact hT.idle _ _) ?_
    clear hK K
    try walk_nrm
    try w_num
    repeat (first | refine t_seq hT ?_ | refine t_block hT ?_ | refine t_skip hT ?_ | refine t_inBlock hT ?_ | refine t_rend hT ?_ | refine t_exit hT rfl ?_)
    refine t_ret hT rfl rfl rfl H.f_uLoad (resultsC_tmp (by rfl) _) ?_
    rw [Frame.finish_atR]
    try walk_nrm
    refine t_op hT rfl (by rfl) (by first | decide | assumption) (by first | rfl | (rw [hro]; rfl)) (fun _ hR K hK => ?_)
    replace hF := rk_carry hF2 hF hR
    clear hR
    go_simp
    try (unfold stored; go_simp)
    try go_ints
    refine hK _ _ () (by rw [listed_nil (by simp [go_sem, *])]; exact hT.idle _ _) ?_
    clear hK K
    try walk_nrm
    try w_num
    repeat (first | refine t_seq hT ?_ | refine t_block hT ?_ | refine t_skip hT ?_ | refine t_inBlock hT ?_ | refine t_rend hT ?_ | refine t_exit hT rfl ?_)
    refine t_region hT _ rfl ?_
    simp only [List.size_toArray, List.length_cons, List.length_nil, Nat.reduceAdd, Nat.zero_add, List.range, List.range.loop]
    refine t_op hT rfl (by rfl) (by first | decide | assumption) (by first | rfl | (rw [hro]; rfl)) (fun _ hR K hK => ?_)
    replace hF := rk_carry hF2 hF hR
    clear hR
    go_simp
    try (unfold stored; go_simp)
    try go_ints
    refine hK _ _ () (by rw [listed_nil (by simp [go_sem, *])]; exact hT.idle _ _) ?_
    clear hK K
    try walk_nrm
    try w_num
    refine t_op hT rfl (by rfl) (by first | decide | assumption) (by first | rfl | (rw [hro]; rfl)) (fun _ hR K hK => ?_)
    replace hF := rk_carry hF2 hF hR
    clear hR
    go_simp
    try (unfold stored; go_simp)
    try go_ints
    refine hK _ _ () (by rw [listed_nil (by simp [go_sem, *])]; exact hT.idle _ _) ?_
    clear hK K
    try walk_nrm
    try w_num
    refine t_op hT rfl (by rfl) (by first | decide | assumption) (by first | rfl | (rw [hro]; rfl)) (fun _ hR K hK => ?_)
    replace hF := rk_carry hF2 hF hR
    clear hR
    go_simp
    try (unfold stored; go_simp)
    try go_ints
    refine hK _ _ () (by rw [listed_nil (by simp [go_sem, *])]; exact hT.idle _ _) ?_
    clear hK K
    try walk_nrm
    try w_num
    refine t_op hT rfl (by rfl) (by first | decide | assumption) (by first | rfl | (rw [hro]; rfl)) (fun _ hR K hK => ?_)
    replace hF := rk_carry hF2 hF hR
    clear hR
    go_simp
    try (unfold stored; go_simp)
    try go_ints
    refine hK _ _ () (by rw [listed_nil (by simp [go_sem, *])]; exact hT.idle _ _) ?_
    clear hK K
    try walk_nrm
    try w_num
    repeat (first | refine t_seq hT ?_ | refine t_block hT ?_ | refine t_skip hT ?_ | refine t_inBlock hT ?_ | refine t_rend hT ?_ | refine t_exit hT rfl ?_)
    refine t_region hT _ rfl ?_
    simp only [List.size_toArray, List.length_cons, List.length_nil, Nat.reduceAdd, Nat.zero_add, List.range, List.range.loop]
    refine t_op hT rfl (by rfl) (by first | decide | assumption) (by first | rfl | (rw [hro]; rfl)) (fun _ hR K hK => ?_)
    replace hF := rk_carry hF2 hF hR
    clear hR
    go_simp
    try (unfold stored; go_simp)
    try go_ints
    refine hK _ _ () (by rw [listed_nil (by simp [go_sem, *])]; exact hT.idle _ _) ?_
    clear hK K
    try walk_nrm
    try w_num
    refine t_op hT rfl (by rfl) (by first | decide | assumption) (by first | rfl | (rw [hro]; rfl)) (fun _ hR K hK => ?_)
    replace hF := rk_carry hF2 hF hR
    clear hR
    go_simp
    try (unfold stored; go_simp)
    try go_ints
    refine hK _ _ () (by rw [listed_nil (by simp [go_sem, *])]; exact hT.idle _ _) ?_
    clear hK K
    try walk_nrm
    try w_num
    refine t_op hT rfl (by rfl) (by first | decide | assumption) (by first | rfl | (rw [hro]; rfl)) (fun _ hR K hK => ?_)
    replace hF := rk_carry hF2 hF hR
    clear hR
    go_simp
    try (unfold stored; go_simp)
    try go_ints
    refine hK _ _ () (by rw [listed_nil (by simp [go_sem, *])]; exact hT.idle _ _) ?_
    clear hK K
    try walk_nrm
    try w_num
    refine t_op hT rfl (by rfl) (by first | decide | assumption) (by first | rfl | (rw [hro]; rfl)) (fun _ hR K hK => ?_)
    replace hF := rk_carry hF2 hF hR
    clear hR
    go_simp
    try (unfold stored; go_simp)
    try go_ints
    refine hK _ _ () (by rw [listed_nil (by simp [go_sem, *])]; exact hT.idle _ _) ?_
    clear hK K
    try walk_nrm
    try w_num
    repeat (first | refine t_seq hT ?_ | refine t_block hT ?_ | refine t_skip hT ?_ | refine t_inBlock hT ?_ | refine t_rend hT ?_ | refine t_exit hT rfl ?_)
    refine t_region hT _ rfl ?_
    simp only [List.size_toArray, List.length_cons, List.length_nil, Nat.reduceAdd, Nat.zero_add, List.range, List.range.loop]
    refine t_op hT rfl (by rfl) (by first | decide | assumption) (by first | rfl | (rw [hro]; rfl)) (fun _ hR K hK => ?_)
    replace hF := rk_carry hF2 hF hR
    clear hR
    go_simp
    try (unfold stored; go_simp)
    try go_ints
    refine hK _ _ () (by rw [listed_nil (by simp [go_sem, *])]; exact hT.idle _ _) ?_
    clear hK K
    try walk_nrm
    try w_num
    refine t_op hT rfl (by rfl) (by first | decide | assumption) (by first | rfl | (rw [hro]; rfl)) (fun _ hR K hK => ?_)
    replace hF := rk_carry hF2 hF hR
    clear hR
    go_simp
    try (unfold stored; go_simp)
    try go_ints
    refine hK _ _ () (by rw [listed_nil (by simp [go_sem, *])]; exact hT.idle _ _) ?_
    clear hK K
    try walk_nrm
    try w_num
    repeat (first | refine t_seq hT ?_ | refine t_block hT ?_ | refine t_skip hT ?_ | refine t_inBlock hT ?_ | refine t_rend hT ?_ | refine t_exit hT rfl ?_)
    refine t_cond hT (t := true) (by first | rfl | (simp [Act.eval]; omega)) ?_
    simp only [if_true, if_false, reduceIte, Bool.false_eq_true]
    repeat (first | refine t_seq hT ?_ | refine t_block hT ?_ | refine t_skip hT ?_ | refine t_inBlock hT ?_ | refine t_rend hT ?_ | refine t_exit hT rfl ?_)
    refine t_cond hT (t := true) (by first | rfl | (simp [Act.eval]; omega)) ?_
    simp only [if_true, if_false, reduceIte, Bool.false_eq_true]
    repeat (first | refine t_seq hT ?_ | refine t_block hT ?_ | refine t_skip hT ?_ | refine t_inBlock hT ?_ | refine t_rend hT ?_ | refine t_exit hT rfl ?_)
    refine t_region hT _ rfl ?_
    simp only [List.size_toArray, List.length_cons, List.length_nil, Nat.reduceAdd, Nat.zero_add, List.range, List.range.loop]
    refine tk_book A Gg hn rfl (by simp) rfl fun w₅ D st sm hR hw hm hv => ?_
    replace hF := rk_carry (u := ()) hF2 hF hR
    clear hR hT
    obtain ⟨hq, rfl, rfl⟩ := hm.fin_inv trivial
    refine ⟨_, w₅, #[Go.ConcR.mk .enable], .acq, 0, 0, 0, stepG_mark0 .enable (by simp) rfl rfl hk2 rfl H.f_enable (x_enable_n L) (x_enable_b L) (x_enable_x L) (x_enable_f L), .refl Wg w₅, bk_en, hw, .fin trivial hq, hv, ?_⟩
    clear hw hm hq hv D
    have hT := clo_tk (P := P) (Sb := Sb) (Post := Post) (ty := L.tWg) (val := val) (tag := .acq) (d0 := 0) (V := 0) A Gg hn rfl (by simp)
    walk_nrm
    change TK P Sb Post L.tWg Wg C n Own Rd Lw val .acq 0 0 () (G ((base L.wait).atR _ _) _) _
    repeat (first | refine t_seq hT ?_ | refine t_block hT ?_ | refine t_skip hT ?_ | refine t_inBlock hT ?_ | refine t_rend hT ?_ | refine t_exit hT rfl ?_)
    refine t_region hT _ rfl ?_
    simp only [List.size_toArray, List.length_cons, List.length_nil, Nat.reduceAdd, Nat.zero_add, List.range, List.range.loop]
    refine t_op hT rfl (by rfl) (by first | decide | assumption) (by first | rfl | (rw [hro]; rfl)) (fun _ hR K hK => ?_)
    replace hF := rk_carry hF2 hF hR
    clear hR
    go_simp
    try (unfold stored; go_simp)
    try go_ints
    refine hK _ _ () (by rw [listed_nil (by simp [go_sem, *])]; exact hT.idle _ _) ?_
    clear hK K
    try walk_nrm
    try w_num
    refine t_op hT rfl (by rfl) (by first | decide | assumption) (by first | rfl | (rw [hro]; rfl)) (fun w₁ hR K hK => ?_)
    replace hF := rk_carry hF2 hF hR
    clear hR
    have hcv := run_convert_to_unsafe (P := P) H.underlying_tWgP H.underlying_tUP H.room_tWg (WgLive.cell0 hF.2).choose_spec
    have hce := fun es => events_convert_to_unsafe (P := P) H.underlying_tWgP H.underlying_tUP H.room_tWg (WgLive.cell0 hF.2).choose_spec es
    go_simp
    refine hK _ _ () (by rw [listed_nil (by simp [go_sem, *])]; exact hT.idle _ _) ?_
    clear hK K hcv hce
    try walk_nrm
    refine tk_acq A Gg hn rfl fun w₆ hR => ?_
    replace hF := rk_carry (u := ()) hF2 hF hR
    clear hR hT
    refine ⟨_, stepG_markAt .acquire (by simp) rfl rfl hk2 rfl H.f_acquire (x_acquire_n L) (x_acquire_b L) (x_acquire_x L) (x_acquire_f L) (by simp [Act.eval, stA]), ?_⟩
    have hT := clo_la (P := P) (Sb := Sw Sb Wg) (Post := Post)
    walk_nrm
    change LA P (Sw Sb Wg) Post () (G ((base L.wait).atR _ _) _) _
    repeat (first | refine t_seq hT ?_ | refine t_block hT ?_ | refine t_skip hT ?_ | refine t_inBlock hT ?_ | refine t_rend hT ?_ | refine t_exit hT rfl ?_)
    refine t_region hT _ rfl ?_
    simp only [List.size_toArray, List.length_cons, List.length_nil, Nat.reduceAdd, Nat.zero_add, List.range, List.range.loop]
    refine t_op hT rfl (by rfl) (by first | decide | assumption) (by first | rfl | (rw [hro]; rfl)) (fun _ hR K hK => ?_)
    replace hF := rb_carry hF2 hF hR
    clear hR
    go_simp
    try (unfold stored; go_simp)
    try go_ints
    refine hK _ _ () (by rw [listed_nil (by simp [go_sem, *])]; exact hT.idle _ _) ?_
    clear hK K
    try walk_nrm
    try w_num
    refine t_op hT rfl (by rfl) (by first | decide | assumption) (by first | rfl | (rw [hro]; rfl)) (fun _ hR K hK => ?_)
    replace hF := rb_carry hF2 hF hR
    clear hR
    go_simp
    try (unfold stored; go_simp)
    try go_ints
    refine hK _ _ () (by rw [listed_nil (by simp [go_sem, *])]; exact hT.idle _ _) ?_
    clear hK K
    try walk_nrm
    try w_num
    refine t_op hT rfl (by rfl) (by first | decide | assumption) (by first | rfl | (rw [hro]; rfl)) (fun _ hR K hK => ?_)
    replace hF := rb_carry hF2 hF hR
    clear hR
    go_simp
    try (unfold stored; go_simp)
    try go_ints
    refine hK _ _ () (by rw [listed_nil (by simp [go_sem, *])]; exact hT.idle _ _) ?_
    clear hK K
    try walk_nrm
    try w_num
    refine t_op hT rfl (by rfl) (by first | decide | assumption) (by first | rfl | (rw [hro]; rfl)) (fun _ hR K hK => ?_)
    replace hF := rb_carry hF2 hF hR
    clear hR
    go_simp
    try (unfold stored; go_simp)
    try go_ints
    refine hK _ _ () (by rw [listed_nil (by simp [go_sem, *])]; exact hT.idle _ _) ?_
    clear hK K
    try walk_nrm
    try w_num
    refine t_op hT rfl (by rfl) (by first | decide | assumption) (by first | rfl | (rw [hro]; rfl)) (fun _ hR K hK => ?_)
    replace hF := rb_carry hF2 hF hR
    clear hR
    go_simp
    try (unfold stored; go_simp)
    try go_ints
    refine hK _ _ () (by rw [listed_nil (by simp [go_sem, *])]; exact hT.idle _ _) ?_
    clear hK K
    try walk_nrm
    try w_num
    refine t_op hT rfl (by rfl) (by first | decide | assumption) (by first | rfl | (rw [hro]; rfl)) (fun _ hR K hK => ?_)
    replace hF := rb_carry hF2 hF hR
    clear hR
    go_simp
    try (unfold stored; go_simp)
    try go_ints
    refine hK _ _ () (by rw [listed_nil (by simp [go_sem, *])]; exact hT.idle _ _) ?_
    clear hK K
    try walk_nrm
    try w_num
    refine t_op hT rfl (by rfl) (by first | decide | assumption) (by first | rfl | (rw [hro]; rfl)) (fun _ hR K hK => ?_)
    replace hF := rb_carry hF2 hF hR
    clear hR
    go_simp
    try (unfold stored; go_simp)
    try go_ints
    refine hK _ _ () (by rw [listed_nil (by simp [go_sem, *])]; exact hT.idle _ _) ?_
    clear hK K
    try walk_nrm
    try w_num
    refine t_op hT rfl (by rfl) (by first | decide | assumption) (by first | rfl | (rw [hro]; rfl)) (fun _ hR K hK => ?_)
    replace hF := rb_carry hF2 hF hR
    clear hR
    go_simp
    try (unfold stored; go_simp)
    try go_ints
    refine hK _ _ () (by rw [listed_nil (by simp [go_sem, *])]; exact hT.idle _ _) ?_
    clear hK K
    try walk_nrm
    try w_num
    refine t_un hT rfl (by rfl) ?_
    try walk_nrm
    refine t_un hT rfl (by rfl) ?_
    try walk_nrm
    refine t_op hT rfl (by rfl) (by first | decide | assumption) (by first | rfl | (rw [hro]; rfl)) (fun _ hR K hK => ?_)
    replace hF := rb_carry hF2 hF hR
    clear hR
    go_simp
    try (unfold stored; go_simp)
    try go_ints
    refine hK _ _ () (by rw [listed_nil (by simp [go_sem, *])]; exact hT.idle _ _) ?_
    clear hK K
    try walk_nrm
    try w_num
    repeat (first | refine t_seq hT ?_ | refine t_block hT ?_ | refine t_skip hT ?_ | refine t_inBlock hT ?_ | refine t_rend hT ?_ | refine t_exit hT rfl ?_)
    refine t_cond hT (t := false) (by first | rfl | (simp [Act.eval]; omega)) ?_
    simp only [if_true, if_false, reduceIte, Bool.false_eq_true]
    repeat (first | refine t_seq hT ?_ | refine t_block hT ?_ | refine t_skip hT ?_ | refine t_inBlock hT ?_ | refine t_rend hT ?_ | refine t_exit hT rfl ?_)
    refine t_ret hT hro rfl rfl H.f_wait (resultsC_none (by rfl) _) ?_
    rw [Frame.finish_atR]
    exact hc _ hF.1 hF.2
  · -- THE LOAD READS v * 2^32
    obtain ⟨v, hvd⟩ : ∃ v, v = Vc n D := ⟨_, rfl⟩
    have hvn : v < 2147483648 := by have := Vc_le n D; omega
    obtain ⟨S, hS⟩ : ∃ S : Int, (v : Int) * KK = S := ⟨_, rfl⟩
    have a1 : S / 4294967296 = (v : Int) := by rw [← hS]; simp only [KK]; omega
    have b1 : bits .and .u64 S 2147483648 = 0 := by rw [← hS]; have := st_flag v 0 (by omega) (by omega); simpa [KK] using this
    have b2 : bits .and .u64 S 2147483647 = 0 := by rw [← hS]; have := st_waiters v 0 (by omega) (by omega); simpa [KK] using this
    have c1 : IntKind.i32.wrap (v : Int) = (v : Int) := by rw [IntKind.wrap_i32]; omega
    have w1 : IntKind.u64.wrap (S + 1) = S + 1 := by rw [IntKind.wrap_u64, ← hS]; simp only [KK]; omega
    have q3 : decide ((v : Int) < 0) = false := decide_eq_false (by omega)
    have q4 : decide (0 < (v : Int)) = true := decide_eq_true (by omega)
    have q5 : ((v : Int) == 0) = false := by simp; omega
    have q6 : decide ((v : Int) = 0) = false := decide_eq_false (by omega)
    have hw1 : WgAt L.tWg Wg w₁ S 0 := by rw [← hS, hvd]; simpa [pend] using hw
    refine ⟨_, w₁, #[rd (stA Wg)], .w2 v, V, _, 0, stepG_load_atomic (v := S) rfl rfl (base_kind _) rfl H.f_loadU64 (x_loadU64_n L) (x_loadU64_b L) (x_loadU64_x L) .u64 (x_loadU64_f L) rfl hw1.cellSt, .refl Wg w₁, bk_rd, hw, hm.reopen trivial trivial rfl (fun vs e => by cases e; omega), hv, ?_⟩
    have hvV : v ≤ V := by omega
    have hv1 : 1 ≤ v := by omega
    clear hw hw1 hm hv ho hvp hvd D
    have hT := clo_tk (P := P) (Sb := Sb) (Post := Post) (ty := L.tWg) (val := val) (tag := .w2 v) (d0 := 1) (V := V) A Gg hn rfl (by simp)
    walk_nrm
    change TK P Sb Post L.tWg Wg C n Own Rd Lw val (.w2 v) 1 V () (G ((base L.uLoad).atR _ _) _) _
    refine t_op hT rfl (by rfl) (by first | decide | assumption) (by first | rfl | (rw [hro]; rfl)) (fun _ hR K hK => ?_)
    replace hF := rk_carry hF2 hF hR
    clear hR
    go_simp
    try (unfold stored; go_simp)
    try go_ints
    refine hK _ _ () (by rw [listed_nil (by simp [go_sem, *])]; exact hT.idle _ _) ?_
    clear hK K
    try walk_nrm
    try w_num
    repeat (first | refine t_seq hT ?_ | refine t_block hT ?_ | refine t_skip hT ?_ | refine t_inBlock hT ?_ | refine t_rend hT ?_ | refine t_exit hT rfl ?_)
    refine t_ret hT rfl rfl rfl H.f_uLoad (resultsC_tmp (by rfl) _) ?_
    rw [Frame.finish_atR]
    try walk_nrm
    refine t_op hT rfl (by rfl) (by first | decide | assumption) (by first | rfl | (rw [hro]; rfl)) (fun _ hR K hK => ?_)
    replace hF := rk_carry hF2 hF hR
    clear hR
    go_simp
    try (unfold stored; go_simp)
    try go_ints
    refine hK _ _ () (by rw [listed_nil (by simp [go_sem, *])]; exact hT.idle _ _) ?_
    clear hK K
    try walk_nrm
    try w_num
    repeat (first | refine t_seq hT ?_ | refine t_block hT ?_ | refine t_skip hT ?_ | refine t_inBlock hT ?_ | refine t_rend hT ?_ | refine t_exit hT rfl ?_)
    refine t_region hT _ rfl ?_
    simp only [List.size_toArray, List.length_cons, List.length_nil, Nat.reduceAdd, Nat.zero_add, List.range, List.range.loop]
    refine t_op hT rfl (by rfl) (by first | decide | assumption) (by first | rfl | (rw [hro]; rfl)) (fun _ hR K hK => ?_)
    replace hF := rk_carry hF2 hF hR
    clear hR
    go_simp
    try (unfold stored; go_simp)
    try go_ints
    refine hK _ _ () (by rw [listed_nil (by simp [go_sem, *])]; exact hT.idle _ _) ?_
    clear hK K
    try walk_nrm
    try w_num
    refine t_op hT rfl (by rfl) (by first | decide | assumption) (by first | rfl | (rw [hro]; rfl)) (fun _ hR K hK => ?_)
    replace hF := rk_carry hF2 hF hR
    clear hR
    go_simp
    try (unfold stored; go_simp)
    try go_ints
    refine hK _ _ () (by rw [listed_nil (by simp [go_sem, *])]; exact hT.idle _ _) ?_
    clear hK K
    try walk_nrm
    try w_num
    refine t_op hT rfl (by rfl) (by first | decide | assumption) (by first | rfl | (rw [hro]; rfl)) (fun _ hR K hK => ?_)
    replace hF := rk_carry hF2 hF hR
    clear hR
    go_simp
    try (unfold stored; go_simp)
    try go_ints
    refine hK _ _ () (by rw [listed_nil (by simp [go_sem, *])]; exact hT.idle _ _) ?_
    clear hK K
    try walk_nrm
    try w_num
    refine t_op hT rfl (by rfl) (by first | decide | assumption) (by first | rfl | (rw [hro]; rfl)) (fun _ hR K hK => ?_)
    replace hF := rk_carry hF2 hF hR
    clear hR
    go_simp
    try (unfold stored; go_simp)
    try go_ints
    refine hK _ _ () (by rw [listed_nil (by simp [go_sem, *])]; exact hT.idle _ _) ?_
    clear hK K
    try walk_nrm
    try w_num
    repeat (first | refine t_seq hT ?_ | refine t_block hT ?_ | refine t_skip hT ?_ | refine t_inBlock hT ?_ | refine t_rend hT ?_ | refine t_exit hT rfl ?_)
    refine t_region hT _ rfl ?_
    simp only [List.size_toArray, List.length_cons, List.length_nil, Nat.reduceAdd, Nat.zero_add, List.range, List.range.loop]
    refine t_op hT rfl (by rfl) (by first | decide | assumption) (by first | rfl | (rw [hro]; rfl)) (fun _ hR K hK => ?_)
    replace hF := rk_carry hF2 hF hR
    clear hR
    go_simp
    try (unfold stored; go_simp)
    try go_ints
    refine hK _ _ () (by rw [listed_nil (by simp [go_sem, *])]; exact hT.idle _ _) ?_
    clear hK K
    try walk_nrm
    try w_num
    refine t_op hT rfl (by rfl) (by first | decide | assumption) (by first | rfl | (rw [hro]; rfl)) (fun _ hR K hK => ?_)
    replace hF := rk_carry hF2 hF hR
    clear hR
    go_simp
    try (unfold stored; go_simp)
    try go_ints
    refine hK _ _ () (by rw [listed_nil (by simp [go_sem, *])]; exact hT.idle _ _) ?_
    clear hK K
    try walk_nrm
    try w_num
    refine t_op hT rfl (by rfl) (by first | decide | assumption) (by first | rfl | (rw [hro]; rfl)) (fun _ hR K hK => ?_)
    replace hF := rk_carry hF2 hF hR
    clear hR
    go_simp
    try (unfold stored; go_simp)
    try go_ints
    refine hK _ _ () (by rw [listed_nil (by simp [go_sem, *])]; exact hT.idle _ _) ?_
    clear hK K
    try walk_nrm
    try w_num
    refine t_op hT rfl (by rfl) (by first | decide | assumption) (by first | rfl | (rw [hro]; rfl)) (fun _ hR K hK => ?_)
    replace hF := rk_carry hF2 hF hR
    clear hR
    go_simp
    try (unfold stored; go_simp)
    try go_ints
    refine hK _ _ () (by rw [listed_nil (by simp [go_sem, *])]; exact hT.idle _ _) ?_
    clear hK K
    try walk_nrm
    try w_num
    repeat (first | refine t_seq hT ?_ | refine t_block hT ?_ | refine t_skip hT ?_ | refine t_inBlock hT ?_ | refine t_rend hT ?_ | refine t_exit hT rfl ?_)
    refine t_region hT _ rfl ?_
    simp only [List.size_toArray, List.length_cons, List.length_nil, Nat.reduceAdd, Nat.zero_add, List.range, List.range.loop]
    refine t_op hT rfl (by rfl) (by first | decide | assumption) (by first | rfl | (rw [hro]; rfl)) (fun _ hR K hK => ?_)
    replace hF := rk_carry hF2 hF hR
    clear hR
    go_simp
    try (unfold stored; go_simp)
    try go_ints
    refine hK _ _ () (by rw [listed_nil (by simp [go_sem, *])]; exact hT.idle _ _) ?_
    clear hK K
    try walk_nrm
    try w_num
    refine t_op hT rfl (by rfl) (by first | decide | assumption) (by first | rfl | (rw [hro]; rfl)) (fun _ hR K hK => ?_)
    replace hF := rk_carry hF2 hF hR
    clear hR
    go_simp
    try (unfold stored; go_simp)
    try go_ints
    refine hK _ _ () (by rw [listed_nil (by simp [go_sem, *])]; exact hT.idle _ _) ?_
    clear hK K
    try walk_nrm
    try w_num
    repeat (first | refine t_seq hT ?_ | refine t_block hT ?_ | refine t_skip hT ?_ | refine t_inBlock hT ?_ | refine t_rend hT ?_ | refine t_exit hT rfl ?_)
    refine t_cond hT (t := false) (by first | rfl | (simp [Act.eval]; omega)) ?_
    simp only [if_true, if_false, reduceIte, Bool.false_eq_true]
    repeat (first | refine t_seq hT ?_ | refine t_block hT ?_ | refine t_skip hT ?_ | refine t_inBlock hT ?_ | refine t_rend hT ?_ | refine t_exit hT rfl ?_)
    refine t_region hT _ rfl ?_
    simp only [List.size_toArray, List.length_cons, List.length_nil, Nat.reduceAdd, Nat.zero_add, List.range, List.range.loop]
    refine t_op hT rfl (by rfl) (by first | decide | assumption) (by first | rfl | (rw [hro]; rfl)) (fun _ hR K hK => ?_)
    replace hF := rk_carry hF2 hF hR
    clear hR
    go_simp
    try (unfold stored; go_simp)
    try go_ints
    refine hK _ _ () (by rw [listed_nil (by simp [go_sem, *])]; exact hT.idle _ _) ?_
    clear hK K
    try walk_nrm
    try w_num
    refine t_op hT rfl (by rfl) (by first | decide | assumption) (by first | rfl | (rw [hro]; rfl)) (fun _ hR K hK => ?_)
    replace hF := rk_carry hF2 hF hR
    clear hR
    go_simp
    try (unfold stored; go_simp)
    try go_ints
    refine hK _ _ () (by rw [listed_nil (by simp [go_sem, *])]; exact hT.idle _ _) ?_
    clear hK K
    try walk_nrm
    try w_num
    refine t_op hT rfl (by rfl) (by first | decide | assumption) (by first | rfl | (rw [hro]; rfl)) (fun _ hR K hK => ?_)
    replace hF := rk_carry hF2 hF hR
    clear hR
    go_simp
    try (unfold stored; go_simp)
    try go_ints
    refine hK _ _ () (by rw [listed_nil (by simp [go_sem, *])]; exact hT.idle _ _) ?_
    clear hK K
    try walk_nrm
    try w_num
    refine t_op hT rfl (by rfl) (by first | decide | assumption) (by first | rfl | (rw [hro]; rfl)) (fun _ hR K hK => ?_)
    replace hF := rk_carry hF2 hF hR
    clear hR
    go_simp
    try (unfold stored; go_simp)
    try go_ints
    refine hK _ _ () (by rw [listed_nil (by simp [go_sem, *])]; exact hT.idle _ _) ?_
    clear hK K
    try walk_nrm
    try w_num
    refine t_op hT rfl (by rfl) (by first | decide | assumption) (by first | rfl | (rw [hro]; rfl)) (fun _ hR K hK => ?_)
    replace hF := rk_carry hF2 hF hR
    clear hR
    go_simp
    try (unfold stored; go_simp)
    try go_ints
    refine hK _ _ () (by rw [listed_nil (by simp [go_sem, *])]; exact hT.idle _ _) ?_
    clear hK K
    try walk_nrm
    try w_num
    refine t_op hT rfl (by rfl) (by first | decide | assumption) (by first | rfl | (rw [hro]; rfl)) (fun _ hR K hK => ?_)
    replace hF := rk_carry hF2 hF hR
    clear hR
    go_simp
    try (unfold stored; go_simp)
    try go_ints
    refine hK _ _ () (by rw [listed_nil (by simp [go_sem, *])]; exact hT.idle _ _) ?_
    clear hK K
    try walk_nrm
    try w_num
    refine t_into hT rfl (by rfl) (by first | decide | assumption | exact base_kind _ | exact baseD_kind _) (by first | rfl | (rw [hro]; rfl)) rfl H.f_uCas (nm_uCas L) rfl ?_
    walk_nrmf uCasFn
    repeat (first | refine t_seq hT ?_ | refine t_block hT ?_ | refine t_skip hT ?_ | refine t_inBlock hT ?_ | refine t_rend hT ?_ | refine t_exit hT rfl ?_)
    refine t_region hT _ rfl ?_
    simp only [List.size_toArray, List.length_cons, List.length_nil, Nat.reduceAdd, Nat.zero_add, List.range, List.range.loop]
    refine t_op hT rfl (by rfl) (by first | decide | assumption) (by first | rfl | (rw [hro]; rfl)) (fun _ hR K hK => ?_)
    replace hF := rk_carry hF2 hF hR
    clear hR
    go_simp
    try (unfold stored; go_simp)
    try go_ints
    refine hK _ _ () (by rw [listed_nil (by simp [go_sem, *])]; exact hT.idle _ _) ?_
    clear hK K
    try walk_nrm
    try w_num
    repeat (first | refine t_seq hT ?_ | refine t_block hT ?_ | refine t_skip hT ?_ | refine t_inBlock hT ?_ | refine t_rend hT ?_ | refine t_exit hT rfl ?_)
    refine t_region hT _ rfl ?_
    simp only [List.size_toArray, List.length_cons, List.length_nil, Nat.reduceAdd, Nat.zero_add, List.range, List.range.loop]
    refine t_op hT rfl (by rfl) (by first | decide | assumption) (by first | rfl | (rw [hro]; rfl)) (fun _ hR K hK => ?_)
    replace hF := rk_carry hF2 hF hR
    clear hR
    go_simp
    try (unfold stored; go_simp)
    try go_ints
    refine hK _ _ () (by rw [listed_nil (by simp [go_sem, *])]; exact hT.idle _ _) ?_
    clear hK K
    try walk_nrm
    try w_num
    refine t_op hT rfl (by rfl) (by first | decide | assumption) (by first | rfl | (rw [hro]; rfl)) (fun _ hR K hK => ?_)
    replace hF := rk_carry hF2 hF hR
    clear hR
    go_simp
    try (unfold stored; go_simp)
    try go_ints
    refine hK _ _ () (by rw [listed_nil (by simp [go_sem, *])]; exact hT.idle _ _) ?_
    clear hK K
    try walk_nrm
    try w_num
    refine t_op hT rfl (by rfl) (by first | decide | assumption) (by first | rfl | (rw [hro]; rfl)) (fun _ hR K hK => ?_)
    replace hF := rk_carry hF2 hF hR
    clear hR
    go_simp
    try (unfold stored; go_simp)
    try go_ints
    refine hK _ _ () (by rw [listed_nil (by simp [go_sem, *])]; exact hT.idle _ _) ?_
    clear hK K
    try walk_nrm
    try w_num
    refine t_op hT rfl (by rfl) (by first | decide | assumption) (by first | rfl | (rw [hro]; rfl)) (fun _ hR K hK => ?_)
    replace hF := rk_carry hF2 hF hR
    clear hR
    go_simp
    try (unfold stored; go_simp)
    try go_ints
    refine hK _ _ () (by rw [listed_nil (by simp [go_sem, *])]; exact hT.idle _ _) ?_
    clear hK K
    try walk_nrm
    try w_num
    refine t_op hT rfl (by rfl) (by first | decide | assumption) (by first | rfl | (rw [hro]; rfl)) (fun _ hR K hK => ?_)
    replace hF := rk_carry hF2 hF hR
    clear hR
    go_simp
    try (unfold stored; go_simp)
    try go_ints
    refine hK _ _ () (by rw [listed_nil (by simp [go_sem, *])]; exact hT.idle _ _) ?_
    clear hK K
    try walk_nrm
    try w_num
    refine tk_book A Gg hn rfl (by simp) rfl fun w₂ D st sm hR hw hm hv => ?_
    replace hF := rk_carry (u := ()) hF2 hF hR
    clear hR hT
    obtain ⟨ho, rfl, rfl, h3⟩ := hm.open_inv trivial
    obtain ⟨hle, hx⟩ := h3 v rfl
    clear hx
    by_cases e : Vc n D = v
    · -- THE CompareAndSwap HITS: REGISTERED
      have hw2 : WgAt L.tWg Wg w₂ S 0 := by rw [← hS, ← e]; simpa [pend] using hw
      have hm2 : Go.ConcN.Mode n D .w3 (S + 1) 0 := by rw [← hS, ← e]; exact .reg trivial ho (by omega)
      refine ⟨_, w₂.setCell (stA Wg) (.int .u64 (S + 1)), #[rd (stA Wg), wr (stA Wg)], .w3, V, S + 1, 0, (stepG_cas_hit (v := S) (n := S + 1) rfl rfl (base_kind _) rfl H.f_casU64 (x_casU64_n L) (x_casU64_b L) (x_casU64_x L) .u64 (x_casU64_f L) rfl rfl rfl hw2.cellSt (hw2.thaw 0)).trans (by rfl), aside_setCell w₂ (stA Wg) _, bk_rw, hw2.setSt _, hm2, hv, ?_⟩
      replace hF : F (w₂.setCell (stA Wg) (.int .u64 (S + 1))) ∧ WgLive L.tWg Wg (w₂.setCell (stA Wg) (.int .u64 (S + 1))) := ⟨hF2 _ _ (.of_Wg (aside_setCell w₂ (stA Wg) _)) hF.1, ⟨_, _, hw2.setSt _⟩⟩
      clear hw hw2 hm hm2 hv ho h3 hle e D
      have hT := clo_tk (P := P) (Sb := Sb) (Post := Post) (ty := L.tWg) (val := val) (tag := .w3) (d0 := 1) (V := V) A Gg hn rfl (by simp)
      walk_nrm
      change TK P Sb Post L.tWg Wg C n Own Rd Lw val .w3 1 V () (G ((base L.uCas).atR _ _) _) _
      refine t_op hT rfl (by rfl) (by first | decide | assumption) (by first | rfl | (rw [hro]; rfl)) (fun _ hR K hK => ?_)
      replace hF := rk_carry hF2 hF hR
      clear hR
      go_simp
      try (unfold stored; go_simp)
      try go_ints
      refine hK _ _ () (by rw [listed_nil (by simp [go_sem, *])]; exact hT.idle _ _) ?_
      clear hK K
      try walk_nrm
      try w_num
      repeat (first | refine t_seq hT ?_ | refine t_block hT ?_ | refine t_skip hT ?_ | refine t_inBlock hT ?_ | refine t_rend hT ?_ | refine t_exit hT rfl ?_)
      refine t_ret hT rfl rfl rfl H.f_uCas (resultsC_tmp (by rfl) _) ?_
      rw [Frame.finish_atR]
      try walk_nrm
      repeat (first | refine t_seq hT ?_ | refine t_block hT ?_ | refine t_skip hT ?_ | refine t_inBlock hT ?_ | refine t_rend hT ?_ | refine t_exit hT rfl ?_)
      refine t_cond hT (t := true) (by first | rfl | (simp [Act.eval]; omega)) ?_
      simp only [if_true, if_false, reduceIte, Bool.false_eq_true]
      repeat (first | refine t_seq hT ?_ | refine t_block hT ?_ | refine t_skip hT ?_ | refine t_inBlock hT ?_ | refine t_rend hT ?_ | refine t_exit hT rfl ?_)
      refine t_region hT _ rfl ?_
      simp only [List.size_toArray, List.length_cons, List.length_nil, Nat.reduceAdd, Nat.zero_add, List.range, List.range.loop]
      refine t_op hT rfl (by rfl) (by first | decide | assumption) (by first | rfl | (rw [hro]; rfl)) (fun _ hR K hK => ?_)
      replace hF := rk_carry hF2 hF hR
      clear hR
      go_simp
      try (unfold stored; go_simp)
      try go_ints
      refine hK _ _ () (by rw [listed_nil (by simp [go_sem, *])]; exact hT.idle _ _) ?_
      clear hK K
      try walk_nrm
      try w_num
      refine t_op hT rfl (by rfl) (by first | decide | assumption) (by first | rfl | (rw [hro]; rfl)) (fun _ hR K hK => ?_)
      replace hF := rk_carry hF2 hF hR
      clear hR
      go_simp
      try (unfold stored; go_simp)
      try go_ints
      refine hK _ _ () (by rw [listed_nil (by simp [go_sem, *])]; exact hT.idle _ _) ?_
      clear hK K
      try walk_nrm
      try w_num
      refine t_op hT rfl (by rfl) (by first | decide | assumption) (by first | rfl | (rw [hro]; rfl)) (fun _ hR K hK => ?_)
      replace hF := rk_carry hF2 hF hR
      clear hR
      go_simp
      try (unfold stored; go_simp)
      try go_ints
      refine hK _ _ () (by rw [listed_nil (by simp [go_sem, *])]; exact hT.idle _ _) ?_
      clear hK K
      try walk_nrm
      try w_num
      refine t_op hT rfl (by rfl) (by first | decide | assumption) (by first | rfl | (rw [hro]; rfl)) (fun _ hR K hK => ?_)
      replace hF := rk_carry hF2 hF hR
      clear hR
      go_simp
      try (unfold stored; go_simp)
      try go_ints
      refine hK _ _ () (by rw [listed_nil (by simp [go_sem, *])]; exact hT.idle _ _) ?_
      clear hK K
      try walk_nrm
      try w_num
      repeat (first | refine t_seq hT ?_ | refine t_block hT ?_ | refine t_skip hT ?_ | refine t_inBlock hT ?_ | refine t_rend hT ?_ | refine t_exit hT rfl ?_)
      refine t_cond hT (t := true) (by first | rfl | (simp [Act.eval]; omega)) ?_
      simp only [if_true, if_false, reduceIte, Bool.false_eq_true]
      repeat (first | refine t_seq hT ?_ | refine t_block hT ?_ | refine t_skip hT ?_ | refine t_inBlock hT ?_ | refine t_rend hT ?_ | refine t_exit hT rfl ?_)
      refine t_region hT _ rfl ?_
      simp only [List.size_toArray, List.length_cons, List.length_nil, Nat.reduceAdd, Nat.zero_add, List.range, List.range.loop]
      refine t_op hT rfl (by rfl) (by first | decide | assumption) (by first | rfl | (rw [hro]; rfl)) (fun _ hR K hK => ?_)
      replace hF := rk_carry hF2 hF hR
      clear hR
      go_simp
      try (unfold stored; go_simp)
      try go_ints
      refine hK _ _ () (by rw [listed_nil (by simp [go_sem, *])]; exact hT.idle _ _) ?_
      clear hK K
      try walk_nrm
      try w_num
      refine t_op hT rfl (by rfl) (by first | decide | assumption) (by first | rfl | (rw [hro]; rfl)) (fun _ hR K hK => ?_)
      replace hF := rk_carry hF2 hF hR
      clear hR
      go_simp
      try (unfold stored; go_simp)
      try go_ints
      refine hK _ _ () (by rw [listed_nil (by simp [go_sem, *])]; exact hT.idle _ _) ?_
      clear hK K
      try walk_nrm
      try w_num
      refine t_op hT rfl (by rfl) (by first | decide | assumption) (by first | rfl | (rw [hro]; rfl)) (fun _ hR K hK => ?_)
      replace hF := rk_carry hF2 hF hR
      clear hR
      go_simp
      try (unfold stored; go_simp)
      try go_ints
      refine hK _ _ () (by rw [listed_nil (by simp [go_sem, *])]; exact hT.idle _ _) ?_
      clear hK K
      try walk_nrm
      try w_num
      refine t_op hT rfl (by rfl) (by first | decide | assumption) (by first | rfl | (rw [hro]; rfl)) (fun w₁ hR K hK => ?_)
      replace hF := rk_carry hF2 hF hR
      clear hR
      have hcv := run_convert_to_unsafe (P := P) H.underlying_tPU32 H.underlying_tUP H.room_tU32 (WgLive.cell1 hF.2).choose_spec
      have hce := fun es => events_convert_to_unsafe (P := P) H.underlying_tPU32 H.underlying_tUP H.room_tU32 (WgLive.cell1 hF.2).choose_spec es
      go_simp
      refine hK _ _ () (by rw [listed_nil (by simp [go_sem, *])]; exact hT.idle _ _) ?_
      clear hK K hcv hce
      try walk_nrm
      refine hT.step rfl fun w₃ hR => ⟨_, _, _, (), stepG_markAt .write (by simp) rfl rfl hk2 rfl H.f_raceWrite (x_raceWrite_n L) (x_raceWrite_b L) (x_raceWrite_x L) (x_raceWrite_f L) (ad := ⟨Wg, 1, none⟩) (by simp [Act.eval]), ⟨rfl, fun e he => by rw [Array.mem_singleton] at he; subst he; exact ev0_said_write _ rfl, fun e he => by rw [Array.mem_singleton] at he; subst he; intro y hy; simp [MemAct.ofEvent, MemAct.touch?] at hy; subst hy; simp⟩, ?_⟩
      replace hF := rk_carry (u := ()) hF2 hF hR
      clear hR
      walk_nrm
      change TK P Sb Post L.tWg Wg C n Own Rd Lw val .w3 1 V () (G ((base L.wait).atR _ _) _) _
      repeat (first | refine t_seq hT ?_ | refine t_block hT ?_ | refine t_skip hT ?_ | refine t_inBlock hT ?_ | refine t_rend hT ?_ | refine t_exit hT rfl ?_)
      refine t_region hT _ rfl ?_
      simp only [List.size_toArray, List.length_cons, List.length_nil, Nat.reduceAdd, Nat.zero_add, List.range, List.range.loop]
      refine t_op hT rfl (by rfl) (by first | decide | assumption) (by first | rfl | (rw [hro]; rfl)) (fun _ hR K hK => ?_)
      replace hF := rk_carry hF2 hF hR
      clear hR
      go_simp
      try (unfold stored; go_simp)
      try go_ints
      refine hK _ _ () (by rw [listed_nil (by simp [go_sem, *])]; exact hT.idle _ _) ?_
      clear hK K
      try walk_nrm
      try w_num
      repeat (first | refine t_seq hT ?_ | refine t_block hT ?_ | refine t_skip hT ?_ | refine t_inBlock hT ?_ | refine t_rend hT ?_ | refine t_exit hT rfl ?_)
      refine t_region hT _ rfl ?_
      simp only [List.size_toArray, List.length_cons, List.length_nil, Nat.reduceAdd, Nat.zero_add, List.range, List.range.loop]
      refine t_op hT rfl (by rfl) (by first | decide | assumption) (by first | rfl | (rw [hro]; rfl)) (fun _ hR K hK => ?_)
      replace hF := rk_carry hF2 hF hR
      clear hR
      go_simp
      try (unfold stored; go_simp)
      try go_ints
      refine hK _ _ () (by rw [listed_nil (by simp [go_sem, *])]; exact hT.idle _ _) ?_
      clear hK K
      try walk_nrm
      try w_num
      refine t_op hT rfl (by rfl) (by first | decide | assumption) (by first | rfl | (rw [hro]; rfl)) (fun _ hR K hK => ?_)
      replace hF := rk_carry hF2 hF hR
      clear hR
      go_simp
      try (unfold stored; go_simp)
      try go_ints
      refine hK _ _ () (by rw [listed_nil (by simp [go_sem, *])]; exact hT.idle _ _) ?_
      clear hK K
      try walk_nrm
      try w_num
      refine t_op hT rfl (by rfl) (by first | decide | assumption) (by first | rfl | (rw [hro]; rfl)) (fun _ hR K hK => ?_)
      replace hF := rk_carry hF2 hF hR
      clear hR
      go_simp
      try (unfold stored; go_simp)
      try go_ints
      refine hK _ _ () (by rw [listed_nil (by simp [go_sem, *])]; exact hT.idle _ _) ?_
      clear hK K
      try walk_nrm
      try w_num
      refine t_op hT rfl (by rfl) (by first | decide | assumption) (by first | rfl | (rw [hro]; rfl)) (fun _ hR K hK => ?_)
      replace hF := rk_carry hF2 hF hR
      clear hR
      go_simp
      try (unfold stored; go_simp)
      try go_ints
      refine hK _ _ () (by rw [listed_nil (by simp [go_sem, *])]; exact hT.idle _ _) ?_
      clear hK K
      try walk_nrm
      try w_num
      refine t_un hT rfl (by rfl) ?_
      try walk_nrm
      refine t_op hT rfl (by rfl) (by first | decide | assumption) (by first | rfl | (rw [hro]; rfl)) (fun _ hR K hK => ?_)
      replace hF := rk_carry hF2 hF hR
      clear hR
      go_simp
      try (unfold stored; go_simp)
      try go_ints
      refine hK _ _ () (by rw [listed_nil (by simp [go_sem, *])]; exact hT.idle _ _) ?_
      clear hK K
      try walk_nrm
      try w_num
      repeat (first | refine t_seq hT ?_ | refine t_block hT ?_ | refine t_skip hT ?_ | refine t_inBlock hT ?_ | refine t_rend hT ?_ | refine t_exit hT rfl ?_)
      refine t_cond hT (t := false) (by first | rfl | (simp [Act.eval]; omega)) ?_
      simp only [if_true, if_false, reduceIte, Bool.false_eq_true]
      repeat (first | refine t_seq hT ?_ | refine t_block hT ?_ | refine t_skip hT ?_ | refine t_inBlock hT ?_ | refine t_rend hT ?_ | refine t_exit hT rfl ?_)
      refine t_region hT _ rfl ?_
      simp only [List.size_toArray, List.length_cons, List.length_nil, Nat.reduceAdd, Nat.zero_add, List.range, List.range.loop]
      refine t_op hT rfl (by rfl) (by first | decide | assumption) (by first | rfl | (rw [hro]; rfl)) (fun _ hR K hK => ?_)
      replace hF := rk_carry hF2 hF hR
      clear hR
      go_simp
      try (unfold stored; go_simp)
      try go_ints
      refine hK _ _ () (by rw [listed_nil (by simp [go_sem, *])]; exact hT.idle _ _) ?_
      clear hK K
      try walk_nrm
      try w_num
      refine t_op hT rfl (by rfl) (by first | decide | assumption) (by first | rfl | (rw [hro]; rfl)) (fun _ hR K hK => ?_)
      replace hF := rk_carry hF2 hF hR
      clear hR
      go_simp
      try (unfold stored; go_simp)
      try go_ints
      refine hK _ _ () (by rw [listed_nil (by simp [go_sem, *])]; exact hT.idle _ _) ?_
      clear hK K
      try walk_nrm
      try w_num
      refine t_op hT rfl (by rfl) (by first | decide | assumption) (by first | rfl | (rw [hro]; rfl)) (fun _ hR K hK => ?_)
      replace hF := rk_carry hF2 hF hR
      clear hR
      go_simp
      try (unfold stored; go_simp)
      try go_ints
      refine hK _ _ () (by rw [listed_nil (by simp [go_sem, *])]; exact hT.idle _ _) ?_
      clear hK K
      try walk_nrm
      try w_num
      refine t_op hT rfl (by rfl) (by first | decide | assumption) (by first | rfl | (rw [hro]; rfl)) (fun _ hR K hK => ?_)
      replace hF := rk_carry hF2 hF hR
      clear hR
      go_simp
      try (unfold stored; go_simp)
      try go_ints
      refine hK _ _ () (by rw [listed_nil (by simp [go_sem, *])]; exact hT.idle _ _) ?_
      clear hK K
      try walk_nrm
      try w_num
      refine tk_w3 A Gg hn rfl rfl (fun w₃ hR ⟨st, hw⟩ => stepG_semacquire_wait rfl rfl rfl H.f_semacquire (x_semacquire_n L) (x_semacquire_b L) (x_semacquire_x L) (x_semacquire_f L) (by simp [Act.eval, smA]) hw.cellSm) fun w₃ hR hf => ?_
      replace hF := rk_carry (u := ()) hF2 hF hR
      clear hR hT
      refine ⟨_, (stepG_semacquire (n := 1) rfl rfl hk2 rfl H.f_semacquire (x_semacquire_n L) (x_semacquire_b L) (x_semacquire_x L) (x_semacquire_f L) (by simp [Act.eval, smA]) hf.cellSm (by decide) (hf.thaw 1)).trans (by rfl), ?_⟩
      replace hF : F (w₃.setCell (smA Wg) (.int .u32 0)) ∧ WgLive L.tWg Wg (w₃.setCell (smA Wg) (.int .u32 0)) := ⟨hF2 _ _ (.of_Wg (aside_setCell w₃ (smA Wg) _)) hF.1, ⟨_, _, hf.setSm 0⟩⟩
      clear hf
      have hT := clo_tk (P := P) (Sb := Sb) (Post := Post) (ty := L.tWg) (val := val) (tag := .w4) (d0 := 1) (V := 0) A Gg hn rfl (by simp)
      walk_nrm
      change TK P Sb Post L.tWg Wg C n Own Rd Lw val .w4 1 0 () (G ((base L.wait).atR _ _) _) _
      repeat (first | refine t_seq hT ?_ | refine t_block hT ?_ | refine t_skip hT ?_ | refine t_inBlock hT ?_ | refine t_rend hT ?_ | refine t_exit hT rfl ?_)
      refine t_region hT _ rfl ?_
      simp only [List.size_toArray, List.length_cons, List.length_nil, Nat.reduceAdd, Nat.zero_add, List.range, List.range.loop]
      refine t_op hT rfl (by rfl) (by first | decide | assumption) (by first | rfl | (rw [hro]; rfl)) (fun _ hR K hK => ?_)
      replace hF := rk_carry hF2 hF hR
      clear hR
      go_simp
      try (unfold stored; go_simp)
      try go_ints
      refine hK _ _ () (by rw [listed_nil (by simp [go_sem, *])]; exact hT.idle _ _) ?_
      clear hK K
      try walk_nrm
      try w_num
      refine t_op hT rfl (by rfl) (by first | decide | assumption) (by first | rfl | (rw [hro]; rfl)) (fun _ hR K hK => ?_)
      replace hF := rk_carry hF2 hF hR
      clear hR
      go_simp
      try (unfold stored; go_simp)
      try go_ints
      refine hK _ _ () (by rw [listed_nil (by simp [go_sem, *])]; exact hT.idle _ _) ?_
      clear hK K
      try walk_nrm
      try w_num
      refine t_op hT rfl (by rfl) (by first | decide | assumption) (by first | rfl | (rw [hro]; rfl)) (fun _ hR K hK => ?_)
      replace hF := rk_carry hF2 hF hR
      clear hR
      go_simp
      try (unfold stored; go_simp)
      try go_ints
      refine hK _ _ () (by rw [listed_nil (by simp [go_sem, *])]; exact hT.idle _ _) ?_
      clear hK K
      try walk_nrm
      try w_num
      refine t_into hT rfl (by rfl) (by first | decide | assumption | exact base_kind _ | exact baseD_kind _) (by first | rfl | (rw [hro]; rfl)) rfl H.f_uLoad (nm_uLoad L) rfl ?_
      walk_nrmf uLoadFn
      repeat (first | refine t_seq hT ?_ | refine t_block hT ?_ | refine t_skip hT ?_ | refine t_inBlock hT ?_ | refine t_rend hT ?_ | refine t_exit hT rfl ?_)
      refine t_region hT _ rfl ?_
      simp only [List.size_toArray, List.length_cons, List.length_nil, Nat.reduceAdd, Nat.zero_add, List.range, List.range.loop]
      refine t_op hT rfl (by rfl) (by first | decide | assumption) (by first | rfl | (rw [hro]; rfl)) (fun _ hR K hK => ?_)
      replace hF := rk_carry hF2 hF hR
      clear hR
      go_simp
      try (unfold stored; go_simp)
      try go_ints
      refine hK _ _ () (by rw [listed_nil (by simp [go_sem, *])]; exact hT.idle _ _) ?_
      clear hK K
      try walk_nrm
      try w_num
      repeat (first | refine t_seq hT ?_ | refine t_block hT ?_ | refine t_skip hT ?_ | refine t_inBlock hT ?_ | refine t_rend hT ?_ | refine t_exit hT rfl ?_)
      refine t_region hT _ rfl ?_
      simp only [List.size_toArray, List.length_cons, List.length_nil, Nat.reduceAdd, Nat.zero_add, List.range, List.range.loop]
      refine t_op hT rfl (by rfl) (by first | decide | assumption) (by first | rfl | (rw [hro]; rfl)) (fun _ hR K hK => ?_)
      replace hF := rk_carry hF2 hF hR
      clear hR
      go_simp
      try (unfold stored; go_simp)
      try go_ints
      refine hK _ _ () (by rw [listed_nil (by simp [go_sem, *])]; exact hT.idle _ _) ?_
      clear hK K
      try walk_nrm
      try w_num
      refine t_op hT rfl (by rfl) (by first | decide | assumption) (by first | rfl | (rw [hro]; rfl)) (fun _ hR K hK => ?_)
      replace hF := rk_carry hF2 hF hR
      clear hR
      go_simp
      try (unfold stored; go_simp)
      try go_ints
      refine hK _ _ () (by rw [listed_nil (by simp [go_sem, *])]; exact hT.idle _ _) ?_
      clear hK K
      try walk_nrm
      try w_num
      refine t_op hT rfl (by rfl) (by first | decide | assumption) (by first | rfl | (rw [hro]; rfl)) (fun _ hR K hK => ?_)
      replace hF := rk_carry hF2 hF hR
      clear hR
      go_simp
      try (unfold stored; go_simp)
      try go_ints
      refine hK _ _ () (by rw [listed_nil (by simp [go_sem, *])]; exact hT.idle _ _) ?_
      clear hK K
      try walk_nrm
      try w_num
      refine tk_book A Gg hn rfl (by simp) rfl fun w₄ D st sm hR hw hm hv => ?_
      replace hF := rk_carry (u := ()) hF2 hF hR
      clear hR hT
      obtain ⟨hq, rfl, rfl⟩ := hm.fin_inv trivial
      refine ⟨_, w₄, #[rd (stA Wg)], .ke, 0, 0, 0, stepG_load_atomic (v := 0) rfl rfl (base_kind _) rfl H.f_loadU64 (x_loadU64_n L) (x_loadU64_b L) (x_loadU64_x L) .u64 (x_loadU64_f L) rfl hw.cellSt, .refl Wg w₄, bk_rd, hw, .fin trivial hq, hv, ?_⟩
      clear hw hm hv hq D
      have hT := clo_tk (P := P) (Sb := Sb) (Post := Post) (ty := L.tWg) (val := val) (tag := .ke) (d0 := 1) (V := 0) A Gg hn rfl (by simp)
      walk_nrm
      change TK P Sb Post L.tWg Wg C n Own Rd Lw val .ke 1 0 () (G ((base L.uLoad).atR _ _) _) _
      refine t_op hT rfl (by rfl) (by first | decide | assumption) (by first | rfl | (rw [hro]; rfl)) (fun _ hR K hK => ?_)
      replace hF := rk_carry hF2 hF hR
      clear hR
      go_simp
      try (unfold stored; go_simp)
      try go_ints
      refine hK _ _ () (by rw [listed_nil (by simp [go_sem, *])]; exact hT.idle _ _) ?_
      clear hK K
      try walk_nrm
      try w_num
      repeat (first | refine t_seq hT ?_ | refine t_block hT ?_ | refine t_skip hT ?_ | refine t_inBlock hT ?_ | refine t_rend hT ?_ | refine t_exit hT rfl ?_)
      refine t_ret hT rfl rfl rfl H.f_uLoad (resultsC_tmp (by rfl) _) ?_
      rw [Frame.finish_atR]
      try walk_nrm
      refine t_op hT rfl (by rfl) (by first | decide | assumption) (by first | rfl | (rw [hro]; rfl)) (fun _ hR K hK => ?_)
      replace hF := rk_carry hF2 hF hR
      clear hR
      go_simp
      try (unfold stored; go_simp)
      try go_ints
      refine hK _ _ () (by rw [listed_nil (by simp [go_sem, *])]; exact hT.idle _ _) ?_
      clear hK K
      try walk_nrm
      try w_num
      refine t_op hT rfl (by rfl) (by first | decide | assumption) (by first | rfl | (rw [hro]; rfl)) (fun _ hR K hK => ?_)
      replace hF := rk_carry hF2 hF hR
      clear hR
      go_simp
      try (unfold stored; go_simp)
      try go_ints
      refine hK _ _ () (by rw [listed_nil (by simp [go_sem, *])]; exact hT.idle _ _) ?_
      clear hK K
      try walk_nrm
      try w_num
      repeat (first | refine t_seq hT ?_ | refine t_block hT ?_ | refine t_skip hT ?_ | refine t_inBlock hT ?_ | refine t_rend hT ?_ | refine t_exit hT rfl ?_)
      refine t_cond hT (t := true) (by first | rfl | (simp [Act.eval]; omega)) ?_
      simp only [if_true, if_false, reduceIte, Bool.false_eq_true]
      repeat (first | refine t_seq hT ?_ | refine t_block hT ?_ | refine t_skip hT ?_ | refine t_inBlock hT ?_ | refine t_rend hT ?_ | refine t_exit hT rfl ?_)
      refine t_region hT _ rfl ?_
      simp only [List.size_toArray, List.length_cons, List.length_nil, Nat.reduceAdd, Nat.zero_add, List.range, List.range.loop]
      refine tk_book A Gg hn rfl (by simp) rfl fun w₅ D st sm hR hw hm hv => ?_
      replace hF := rk_carry (u := ()) hF2 hF hR
      clear hR hT
      obtain ⟨hq, rfl, rfl⟩ := hm.fin_inv trivial
      refine ⟨_, w₅, #[Go.ConcR.mk .enable], .acq, 0, 0, 0, stepG_mark0 .enable (by simp) rfl rfl hk2 rfl H.f_enable (x_enable_n L) (x_enable_b L) (x_enable_x L) (x_enable_f L), .refl Wg w₅, bk_en, hw, .fin trivial hq, hv, ?_⟩
      clear hw hm hq hv D
      have hT := clo_tk (P := P) (Sb := Sb) (Post := Post) (ty := L.tWg) (val := val) (tag := .acq) (d0 := 0) (V := 0) A Gg hn rfl (by simp)
      walk_nrm
      change TK P Sb Post L.tWg Wg C n Own Rd Lw val .acq 0 0 () (G ((base L.wait).atR _ _) _) _
      repeat (first | refine t_seq hT ?_ | refine t_block hT ?_ | refine t_skip hT ?_ | refine t_inBlock hT ?_ | refine t_rend hT ?_ | refine t_exit hT rfl ?_)
      refine t_region hT _ rfl ?_
      simp only [List.size_toArray, List.length_cons, List.length_nil, Nat.reduceAdd, Nat.zero_add, List.range, List.range.loop]
      refine t_op hT rfl (by rfl) (by first | decide | assumption) (by first | rfl | (rw [hro]; rfl)) (fun _ hR K hK => ?_)
      replace hF := rk_carry hF2 hF hR
      clear hR
      go_simp
      try (unfold stored; go_simp)
      try go_ints
      refine hK _ _ () (by rw [listed_nil (by simp [go_sem, *])]; exact hT.idle _ _) ?_
      clear hK K
      try walk_nrm
      try w_num
      refine t_op hT rfl (by rfl) (by first | decide | assumption) (by first | rfl | (rw [hro]; rfl)) (fun w₁ hR K hK => ?_)
      replace hF := rk_carry hF2 hF hR
      clear hR
      have hcv := run_convert_to_unsafe (P := P) H.underlying_tWgP H.underlying_tUP H.room_tWg (WgLive.cell0 hF.2).choose_spec
      have hce := fun es => events_convert_to_unsafe (P := P) H.underlying_tWgP H.underlying_tUP H.room_tWg (WgLive.cell0 hF.2).choose_spec es
      go_simp
      refine hK _ _ () (by rw [listed_nil (by simp [go_sem, *])]; exact hT.idle _ _) ?_
      clear hK K hcv hce
      try walk_nrm
      refine tk_acq A Gg hn rfl fun w₆ hR => ?_
      replace hF := rk_carry (u := ()) hF2 hF hR
      clear hR hT
      refine ⟨_, stepG_markAt .acquire (by simp) rfl rfl hk2 rfl H.f_acquire (x_acquire_n L) (x_acquire_b L) (x_acquire_x L) (x_acquire_f L) (by simp [Act.eval, stA]), ?_⟩
      have hT := clo_la (P := P) (Sb := Sw Sb Wg) (Post := Post)
      walk_nrm
      change LA P (Sw Sb Wg) Post () (G ((base L.wait).atR _ _) _) _
      repeat (first | refine t_seq hT ?_ | refine t_block hT ?_ | refine t_skip hT ?_ | refine t_inBlock hT ?_ | refine t_rend hT ?_ | refine t_exit hT rfl ?_)
      refine t_region hT _ rfl ?_
      simp only [List.size_toArray, List.length_cons, List.length_nil, Nat.reduceAdd, Nat.zero_add, List.range, List.range.loop]
      refine t_op hT rfl (by rfl) (by first | decide | assumption) (by first | rfl | (rw [hro]; rfl)) (fun _ hR K hK => ?_)
      replace hF := rb_carry hF2 hF hR
      clear hR
      go_simp
      try (unfold stored; go_simp)
      try go_ints
      refine hK _ _ () (by rw [listed_nil (by simp [go_sem, *])]; exact hT.idle _ _) ?_
      clear hK K
      try walk_nrm
      try w_num
      repeat (first | refine t_seq hT ?_ | refine t_block hT ?_ | refine t_skip hT ?_ | refine t_inBlock hT ?_ | refine t_rend hT ?_ | refine t_exit hT rfl ?_)
      refine t_cond hT (t := false) (by first | rfl | (simp [Act.eval]; omega)) ?_
      simp only [if_true, if_false, reduceIte, Bool.false_eq_true]
      repeat (first | refine t_seq hT ?_ | refine t_block hT ?_ | refine t_skip hT ?_ | refine t_inBlock hT ?_ | refine t_rend hT ?_ | refine t_exit hT rfl ?_)
      refine t_ret hT hro rfl rfl H.f_wait (resultsC_none (by rfl) _) ?_
      rw [Frame.finish_atR]
      exact hc _ hF.1 hF.2
    · -- IT MISSES: BACK TO THE LOOP's HEAD
      have hlt : Vc n D ≤ v - 1 := by omega
      have hw2 : WgAt L.tWg Wg w₂ (((Vc n D : Nat) : Int) * KK) 0 := by simpa [pend] using hw
      refine ⟨_, w₂, #[rd (stA Wg)], .anch, v - 1, _, 0, stepG_cas_miss (v := ((Vc n D : Nat) : Int) * KK) (old := S) (n := S + 1) rfl rfl (base_kind _) rfl H.f_casU64 (x_casU64_n L) (x_casU64_b L) (x_casU64_x L) .u64 (x_casU64_f L) rfl rfl rfl hw2.cellSt (hw2.thaw 0) (by rw [← hS]; simp only [KK]; omega), .refl Wg w₂, bk_rd, hw, hm.reopen trivial trivial rfl (by simp), hlt, ?_⟩
      clear hw hw2 hm hv ho h3 hle e hlt D
      have hT := clo_tk (P := P) (Sb := Sb) (Post := Post) (ty := L.tWg) (val := val) (tag := .anch) (d0 := 1) (V := v - 1) A Gg hn rfl (by simp)
      walk_nrm
      change TK P Sb Post L.tWg Wg C n Own Rd Lw val .anch 1 (v - 1) () (G ((base L.uCas).atR _ _) _) _
      refine t_op hT rfl (by rfl) (by first | decide | assumption) (by first | rfl | (rw [hro]; rfl)) (fun _ hR K hK => ?_)
      replace hF := rk_carry hF2 hF hR
      clear hR
      go_simp
      try (unfold stored; go_simp)
      try go_ints
      refine hK _ _ () (by rw [listed_nil (by simp [go_sem, *])]; exact hT.idle _ _) ?_
      clear hK K
      try walk_nrm
      try w_num
      repeat (first | refine t_seq hT ?_ | refine t_block hT ?_ | refine t_skip hT ?_ | refine t_inBlock hT ?_ | refine t_rend hT ?_ | refine t_exit hT rfl ?_)
      refine t_ret hT rfl rfl rfl H.f_uCas (resultsC_tmp (by rfl) _) ?_
      rw [Frame.finish_atR]
      try walk_nrm
      repeat (first | refine t_seq hT ?_ | refine t_block hT ?_ | refine t_skip hT ?_ | refine t_inBlock hT ?_ | refine t_rend hT ?_ | refine t_exit hT rfl ?_)
      refine t_cond hT (t := false) (by first | rfl | (simp [Act.eval]; omega)) ?_
      simp only [if_true, if_false, reduceIte, Bool.false_eq_true]
      repeat (first | refine t_seq hT ?_ | refine t_block hT ?_ | refine t_skip hT ?_ | refine t_inBlock hT ?_ | refine t_rend hT ?_ | refine t_exit hT rfl ?_)
      refine t_inLoop hT ?_
      exact ih (v - 1) (by omega) _ _ rfl rfl hF
end
end Go.Proofs.Ytkbfcaaihellfaa
