/- Steps on the way to the law; each part says what it proves. -/
import Derived.Test.YtkbfcaaihellfaaU13
import Derived.Test.YtkbfcaaihellfaaU12
import Derived.Test.YtkbfcaaihellfaaU4
import Derived.WalkSpells

set_option linter.unusedSimpArgs false

/- Walks in company: MapOk, slices.Equal. -/
namespace Go.Proofs.Ytkbfcaaihellfaa
open Go.Conc Go.ConcN Go.RowKit
set_option linter.unusedVariables false
set_option linter.unusedSectionVars false

section
variable [Go.ConcR.Payload] {main : Bool} {ty : TypeId} {Wg : Nat} {S : Nat → Prop} {T : Gh → Goroutine → World → Prop} {y : Gh} {w : World}
set_option maxHeartbeats 400000 in
theorem mapOk_g (hT : Clo Try.prog main (RG ty Wg S) (DG main Wg S) T) (A : Option Addr) (c : Nat) (xs : List Int) (hR : RdA w A xs) (hS : Sees y S A) (hn : xs.length ≤ 1048577) : CallsT Try.prog T 40 #[.slice A xs.length c] y w fun v y' w' => v = .bool (mapOkB xs) ∧ y = y' ∧ RG ty Wg S y w w' := by
  refine callsT_of Try.func40 rfl fun fr cs hc => ?_
  simp only [Try.ntmps40, List.size_toArray, List.length_cons, List.length_nil, Nat.reduceAdd, Nat.reduceSub, Array.replicate_succ, Array.replicate_zero, List.push_toArray, List.append_toArray, List.nil_append, List.cons_append]
  have hF : RG ty Wg S y w w := RM.refl w
  repeat (first | refine t_seq hT ?_ | refine t_block hT ?_ | refine t_skip hT ?_ | refine t_inBlock hT ?_ | refine t_rend hT ?_ | refine t_exit hT rfl ?_)
  refine t_region hT [0] rfl ?_
  refine t_op hT rfl (by rfl) (by first | decide | assumption) (by first | rfl | (rw [hro]; rfl)) (fun _ hR K hK => ?_)
  replace hF := hF.trans hR
  clear hR
  go_simp
  try (unfold stored; go_simp)
  try go_ints
  refine hK _ _ y (by rw [listed_nil (by simp [go_sem, *])]; exact hT.idle _ _) ?_
  clear hK K
  try walk_nrm
  repeat (first | refine t_seq hT ?_ | refine t_block hT ?_ | refine t_skip hT ?_ | refine t_inBlock hT ?_ | refine t_rend hT ?_ | refine t_exit hT rfl ?_)
  refine t_region hT [0, 1, 2] rfl ?_
  refine t_op hT rfl (by rfl) (by first | decide | assumption) (by first | rfl | (rw [hro]; rfl)) (fun _ hR K hK => ?_)
  replace hF := hF.trans hR
  clear hR
  go_simp
  try (unfold stored; go_simp)
  try go_ints
  refine hK _ _ y (by rw [listed_nil (by simp [go_sem, *])]; exact hT.idle _ _) ?_
  clear hK K
  try walk_nrm
  refine t_call hT rfl (by rfl) (by first | decide | assumption) (by first | rfl | (rw [hro]; rfl)) rfl Try.func56 (by rfl) rfl (by walk_nrm; exact ok_g hT _ _ _ (rdA_rely hS hF hR) hS hn) ?_
  rintro _ _ _ ⟨rfl, rfl, hG⟩
  replace hF := hF.trans hG
  clear hG
  try walk_nrm
  refine t_op hT rfl (by rfl) (by first | decide | assumption) (by first | rfl | (rw [hro]; rfl)) (fun _ hR K hK => ?_)
  replace hF := hF.trans hR
  clear hR
  go_simp
  try (unfold stored; go_simp)
  try go_ints
  refine hK _ _ y (by rw [listed_nil (by simp [go_sem, *])]; exact hT.idle _ _) ?_
  clear hK K
  try walk_nrm
  repeat (first | refine t_seq hT ?_ | refine t_block hT ?_ | refine t_skip hT ?_ | refine t_inBlock hT ?_ | refine t_rend hT ?_ | refine t_exit hT rfl ?_)
  refine t_ret hT rfl rfl rfl Try.func40 (resultsC_tmp (by rfl) _) (hc _ _ _ ⟨rfl, rfl, hF⟩)

set_option maxHeartbeats 1000000 in
theorem equal_g (hT : Clo Try.prog main (RG ty Wg S) (DG main Wg S) T) (A B : Option Addr) (c d : Nat) (xs ys : List Int) (hR : RdA w A xs) (hS : Sees y S A) (hR2 : RdA w B ys) (hS2 : Sees y S B) (hn : xs.length ≤ 1048577) (hm : ys.length ≤ 1048577) :
    CallsT Try.prog T 43 #[.slice A xs.length c, .slice B ys.length d] y w fun v y' w' => v = .bool (decide (xs = ys)) ∧ y = y' ∧ RG ty Wg S y w w' := by
  refine callsT_of Try.func43 rfl fun fr cs hc => ?_
  simp only [Try.ntmps43, List.size_toArray, List.length_cons, List.length_nil, Nat.reduceAdd, Nat.reduceSub, Array.replicate_succ, Array.replicate_zero, List.push_toArray, List.append_toArray, List.nil_append, List.cons_append]
  have hF : RG ty Wg S y w w := RM.refl w
  by_cases hl : xs.length = ys.length
  · have hl' : ((xs.length : Int) != (ys.length : Int)) = false := by simp [hl]
    have HL := hid hl
    clear hl
    repeat (first | refine t_seq hT ?_ | refine t_block hT ?_ | refine t_skip hT ?_ | refine t_inBlock hT ?_ | refine t_rend hT ?_ | refine t_exit hT rfl ?_)
    refine t_region hT [0] rfl ?_
    refine t_op hT rfl (by rfl) (by first | decide | assumption) (by first | rfl | (rw [hro]; rfl)) (fun _ hR K hK => ?_)
    replace hF := hF.trans hR
    clear hR
    go_simp
    try (unfold stored; go_simp)
    try go_ints
    refine hK _ _ y (by rw [listed_nil (by simp [go_sem, *])]; exact hT.idle _ _) ?_
    clear hK K
    try walk_nrm
    repeat (first | refine t_seq hT ?_ | refine t_block hT ?_ | refine t_skip hT ?_ | refine t_inBlock hT ?_ | refine t_rend hT ?_ | refine t_exit hT rfl ?_)
    refine t_region hT [0, 1, 2, 3, 4] rfl ?_
    refine t_op hT rfl (by rfl) (by first | decide | assumption) (by first | rfl | (rw [hro]; rfl)) (fun _ hR K hK => ?_)
    replace hF := hF.trans hR
    clear hR
    go_simp
    try (unfold stored; go_simp)
    try go_ints
    refine hK _ _ y (by rw [listed_nil (by simp [go_sem, *])]; exact hT.idle _ _) ?_
    clear hK K
    try walk_nrm
    refine t_op hT rfl (by rfl) (by first | decide | assumption) (by first | rfl | (rw [hro]; rfl)) (fun _ hR K hK => ?_)
    replace hF := hF.trans hR
    clear hR
    go_simp
    try (unfold stored; go_simp)
    try go_ints
    refine hK _ _ y (by rw [listed_nil (by simp [go_sem, *])]; exact hT.idle _ _) ?_
    clear hK K
    try walk_nrm
    refine t_op hT rfl (by rfl) (by first | decide | assumption) (by first | rfl | (rw [hro]; rfl)) (fun _ hR K hK => ?_)
    replace hF := hF.trans hR
    clear hR
    go_simp
    try (unfold stored; go_simp)
    try go_ints
    refine hK _ _ y (by rw [listed_nil (by simp [go_sem, *])]; exact hT.idle _ _) ?_
    clear hK K
    try walk_nrm
    refine t_op hT rfl (by rfl) (by first | decide | assumption) (by first | rfl | (rw [hro]; rfl)) (fun _ hR K hK => ?_)
    replace hF := hF.trans hR
    clear hR
    go_simp
    try (unfold stored; go_simp)
    try go_ints
    refine hK _ _ y (by rw [listed_nil (by simp [go_sem, *])]; exact hT.idle _ _) ?_
    clear hK K
    try walk_nrm
    refine t_op hT rfl (by rfl) (by first | decide | assumption) (by first | rfl | (rw [hro]; rfl)) (fun _ hR K hK => ?_)
    replace hF := hF.trans hR
    clear hR
    go_simp
    try (unfold stored; go_simp)
    try go_ints
    refine hK _ _ y (by rw [listed_nil (by simp [go_sem, *])]; exact hT.idle _ _) ?_
    clear hK K
    try walk_nrm
    repeat (first | refine t_seq hT ?_ | refine t_block hT ?_ | refine t_skip hT ?_ | refine t_inBlock hT ?_ | refine t_rend hT ?_ | refine t_exit hT rfl ?_)
    refine t_cond hT (t := _) rfl ?_
    simp only [if_true, if_false, reduceIte, Bool.false_eq_true, *]
    repeat (first | refine t_seq hT ?_ | refine t_block hT ?_ | refine t_skip hT ?_ | refine t_inBlock hT ?_ | refine t_rend hT ?_ | refine t_exit hT rfl ?_)
    refine t_region hT [0, 1, 2] rfl ?_
    refine t_op hT rfl (by rfl) (by first | decide | assumption) (by first | rfl | (rw [hro]; rfl)) (fun _ hR K hK => ?_)
    replace hF := hF.trans hR
    clear hR
    go_simp
    try (unfold stored; go_simp)
    try go_ints
    refine hK _ _ y (by rw [listed_nil (by simp [go_sem, *])]; exact hT.idle _ _) ?_
    clear hK K
    try walk_nrm
    refine t_op hT rfl (by rfl) (by first | decide | assumption) (by first | rfl | (rw [hro]; rfl)) (fun _ hR K hK => ?_)
    replace hF := hF.trans hR
    clear hR
    go_simp
    try (unfold stored; go_simp)
    try go_ints
    refine hK _ _ y (by rw [listed_nil (by simp [go_sem, *])]; exact hT.idle _ _) ?_
    clear hK K
    try walk_nrm
    refine t_op hT rfl (by rfl) (by first | decide | assumption) (by first | rfl | (rw [hro]; rfl)) (fun _ hR K hK => ?_)
    replace hF := hF.trans hR
    clear hR
    go_simp
    try (unfold stored; go_simp)
    try go_ints
    refine hK _ _ y (by rw [listed_nil (by simp [go_sem, *])]; exact hT.idle _ _) ?_
    clear hK K
    try walk_nrm
    repeat (first | refine t_seq hT ?_ | refine t_block hT ?_ | refine t_skip hT ?_ | refine t_inBlock hT ?_ | refine t_rend hT ?_ | refine t_exit hT rfl ?_)
    refine t_loop hT (fun a y' w' => a.defers = [] ∧ a.tmps.size = 26 ∧ ∃ k : Nat, k ≤ xs.length ∧ a.tmps.getD 0 undef = .slice A xs.length c ∧ a.tmps.getD 1 undef = .slice B ys.length d ∧ a.tmps.getD 12 undef = .int .i64 xs.length ∧ a.tmps.getD 13 undef = .int .i64 k ∧ xs.take k = ys.take k ∧ y = y' ∧ RG ty Wg S y w w') (fun a _ _ => xs.length - natOf (a.tmps.getD 13 undef)) ⟨rfl, rfl, 0, Nat.zero_le _, rfl, rfl, rfl, rfl, rfl, rfl, hF⟩ ?_
    rintro ⟨tmps, ds⟩ y' w' ⟨rfl, hsz, k, hk, h0, h1, h12, h13, ht, rfl, hF⟩ IH
    obtain ⟨J, rfl⟩ : ∃ J : Nat → Value, tmps = #[J 0, J 1, J 2, J 3, J 4, J 5, J 6, J 7, J 8, J 9, J 10, J 11, J 12, J 13, J 14, J 15, J 16, J 17, J 18, J 19, J 20, J 21, J 22, J 23, J 24, J 25] := ⟨fun i => tmps.getD i undef, (lit tmps).trans (by rw [hsz]; rfl)⟩
    change J 0 = _ at h0
    change J 1 = _ at h1
    change J 12 = _ at h12
    change J 13 = _ at h13
    simp only [h0, h1, h12, h13]
    clear hsz h0 h1 h12
    have hμ : natOf (J 13) = k := by rw [h13]; exact Int.toNat_natCast k
    clear h13
    have HT := hid ht
    clear ht
    by_cases hlt : k < xs.length
    · have hlt2 : k < ys.length := by have := HL.out; omega
      obtain ⟨ad, rfl, hcell⟩ := hR k hlt
      obtain ⟨bd, rfl, hcell2⟩ := hR2 k hlt2
      have hd : decide ((k : Int) < xs.length) = true := by simpa using hlt
      have hwk := hid (show (k : Int) + 1 = ((k + 1 : Nat) : Int) by omega)
      repeat (first | refine t_seq hT ?_ | refine t_block hT ?_ | refine t_skip hT ?_ | refine t_inBlock hT ?_ | refine t_rend hT ?_ | refine t_exit hT rfl ?_)
      refine t_region hT [0] rfl ?_
      refine t_op hT rfl (by rfl) (by first | decide | assumption) (by first | rfl | (rw [hro]; rfl)) (fun _ hR K hK => ?_)
      replace hF := hF.trans hR
      clear hR
      go_simp
      try (unfold stored; go_simp)
      try go_ints
      refine hK _ _ y (by rw [listed_nil (by simp [go_sem, *])]; exact hT.idle _ _) ?_
      clear hK K
      try walk_nrm
      repeat (first | refine t_seq hT ?_ | refine t_block hT ?_ | refine t_skip hT ?_ | refine t_inBlock hT ?_ | refine t_rend hT ?_ | refine t_exit hT rfl ?_)
      refine t_cond hT (t := _) rfl ?_
      simp only [if_true, if_false, reduceIte, Bool.false_eq_true, *]
      repeat (first | refine t_seq hT ?_ | refine t_block hT ?_ | refine t_skip hT ?_ | refine t_inBlock hT ?_ | refine t_rend hT ?_ | refine t_exit hT rfl ?_)
      refine t_region hT [0, 1] rfl ?_
      refine t_op hT rfl (by rfl) (by first | decide | assumption) (by first | rfl | (rw [hro]; rfl)) (fun _ hR K hK => ?_)
      replace hF := hF.trans hR
      clear hR
      go_simp
      try (unfold stored; go_simp)
      try go_ints
      refine hK _ _ y (by rw [listed_nil (by simp [go_sem, *])]; exact hT.idle _ _) ?_
      clear hK K
      try walk_nrm
      refine t_op hT rfl (by rfl) (by first | decide | assumption) (by first | rfl | (rw [hro]; rfl)) (fun _ hR K hK => ?_)
      replace hF := hF.trans hR
      clear hR
      go_simp
      try (unfold stored; go_simp)
      try go_ints
      refine hK _ _ y (by rw [listed_nil (by simp [go_sem, *])]; exact hT.idle _ _) ?_
      clear hK K
      try walk_nrm
      repeat (first | refine t_seq hT ?_ | refine t_block hT ?_ | refine t_skip hT ?_ | refine t_inBlock hT ?_ | refine t_rend hT ?_ | refine t_exit hT rfl ?_)
      refine t_drawR hT (S := RG ty Wg S y w) (fun _ _ h r => h.trans r) (fun _ h => h.trans ⟨fun _ _ => rfl, Nat.le_refl _, id⟩) (by first | kernel_rfl | rfl) (by decide) rfl hF ?_
      refine anyR_take (i := 0) (v := .slice (some ad) xs.length c) rfl (by decide +kernel) (by decide +kernel) (by decide +kernel) (.inl ⟨by rfl, fun _ hw => ⟨run_eq_of (fun K hK => ?_), ?_⟩⟩) ?_
      · skip
        go_simp
        try go_ints
        exact hK
      · skip
        rw [listed_nil (by simp [go_sem, *])]; exact hT.idle _ _
      try walk_nrm
      refine anyR_take (i := 1) (v := .int .i64 k) rfl (by decide +kernel) (by decide +kernel) (by decide +kernel) (.inl ⟨by rfl, fun _ hw => ⟨run_eq_of (fun K hK => ?_), ?_⟩⟩) ?_
      · skip
        go_simp
        try go_ints
        exact hK
      · skip
        rw [listed_nil (by simp [go_sem, *])]; exact hT.idle _ _
      try walk_nrm
      refine anyR_take (i := 2) (v := .pointer (some (ad.add k))) rfl (by decide +kernel) (by decide +kernel) (by decide +kernel) (.inl ⟨by rfl, fun _ hw => ⟨run_eq_of (fun K hK => ?_), ?_⟩⟩) ?_
      · skip
        go_simp
        try go_ints
        exact hK
      · skip
        rw [listed_nil (by simp [go_sem, *])]; exact hT.idle _ _
      try walk_nrm
      refine anyR_take (i := 3) (v := .int .i64 (nth xs k)) rfl (by decide +kernel) (by decide +kernel) (by decide +kernel) (.inl ⟨by rfl, fun _ hw => ⟨run_eq_of (fun K hK => ?_), ?_⟩⟩) ?_
      · have hce := (cell_rely (hS.add k) hw).trans hcell
        go_simp
        try go_ints
        exact hK
      · have hce := (cell_rely (hS.add k) hw).trans hcell
        refine dg_reads ?_
        co_evs (exact evm_read (hS.add k))
      try walk_nrm
      refine anyR_take (i := 4) (v := .slice (some bd) ys.length d) rfl (by decide +kernel) (by decide +kernel) (by decide +kernel) (.inl ⟨by rfl, fun _ hw => ⟨run_eq_of (fun K hK => ?_), ?_⟩⟩) ?_
      · skip
        go_simp
        try go_ints
        exact hK
      · skip
        rw [listed_nil (by simp [go_sem, *])]; exact hT.idle _ _
      try walk_nrm
      refine anyR_take (i := 5) (v := .int .i64 k) rfl (by decide +kernel) (by decide +kernel) (by decide +kernel) (.inl ⟨by rfl, fun _ hw => ⟨run_eq_of (fun K hK => ?_), ?_⟩⟩) ?_
      · skip
        go_simp
        try go_ints
        exact hK
      · skip
        rw [listed_nil (by simp [go_sem, *])]; exact hT.idle _ _
      try walk_nrm
      refine anyR_take (i := 6) (v := .pointer (some (bd.add k))) rfl (by decide +kernel) (by decide +kernel) (by decide +kernel) (.inl ⟨by rfl, fun _ hw => ⟨run_eq_of (fun K hK => ?_), ?_⟩⟩) ?_
      · skip
        go_simp
        try go_ints
        exact hK
      · skip
        rw [listed_nil (by simp [go_sem, *])]; exact hT.idle _ _
      try walk_nrm
      refine anyR_take (i := 7) (v := .int .i64 (nth ys k)) rfl (by decide +kernel) (by decide +kernel) (by decide +kernel) (.inl ⟨by rfl, fun _ hw => ⟨run_eq_of (fun K hK => ?_), ?_⟩⟩) ?_
      · have hce := (cell_rely (hS2.add k) hw).trans hcell2
        go_simp
        try go_ints
        exact hK
      · have hce := (cell_rely (hS2.add k) hw).trans hcell2
        refine dg_reads ?_
        co_evs (exact evm_read (hS2.add k))
      try walk_nrm
      refine anyR_take (i := 8) (v := .bool (nth xs k != nth ys k)) rfl (by decide +kernel) (by decide +kernel) (by decide +kernel) (.inl ⟨by rfl, fun _ hw => ⟨run_eq_of (fun K hK => ?_), ?_⟩⟩) ?_
      · skip
        go_simp
        try go_ints
        exact hK
      · skip
        rw [listed_nil (by simp [go_sem, *])]; exact hT.idle _ _
      try walk_nrm
      refine anyR_done (by first | kernel_rfl | decide +kernel) (fun _ hF => ?_) _
      by_cases he : nth xs k = nth ys k
      · have hne : (nth xs k != nth ys k) = false := by simpa using he
        have HE := hid (eqlen HL.out hlt HT.out he)
        clear he
        repeat (first | refine t_seq hT ?_ | refine t_block hT ?_ | refine t_skip hT ?_ | refine t_inBlock hT ?_ | refine t_rend hT ?_ | refine t_exit hT rfl ?_)
        refine t_cond hT (t := _) rfl ?_
        simp only [if_true, if_false, reduceIte, Bool.false_eq_true, *]
        repeat (first | refine t_seq hT ?_ | refine t_block hT ?_ | refine t_skip hT ?_ | refine t_inBlock hT ?_ | refine t_rend hT ?_ | refine t_exit hT rfl ?_)
        refine t_region hT [0, 1] rfl ?_
        refine t_op hT rfl (by rfl) (by first | decide | assumption) (by first | rfl | (rw [hro]; rfl)) (fun _ hR K hK => ?_)
        replace hF := hF.trans hR
        clear hR
        go_simp
        try (unfold stored; go_simp)
        try go_ints
        refine hK _ _ y (by rw [listed_nil (by simp [go_sem, *])]; exact hT.idle _ _) ?_
        clear hK K
        try walk_nrm
        refine t_op hT rfl (by rfl) (by first | decide | assumption) (by first | rfl | (rw [hro]; rfl)) (fun _ hR K hK => ?_)
        replace hF := hF.trans hR
        clear hR
        go_simp
        try (unfold stored; go_simp)
        try go_ints
        refine hK _ _ y (by rw [listed_nil (by simp [go_sem, *])]; exact hT.idle _ _) ?_
        clear hK K
        try walk_nrm
        repeat (first | refine t_seq hT ?_ | refine t_block hT ?_ | refine t_skip hT ?_ | refine t_inBlock hT ?_ | refine t_rend hT ?_ | refine t_exit hT rfl ?_)
        exact IH _ _ _ ⟨rfl, rfl, k + 1, by omega, rfl, rfl, rfl, congrArg (Value.int .i64) hwk.out, HE.out, rfl, hF⟩ (by show xs.length - natOf (.int .i64 ((k : Int) + 1)) < xs.length - natOf (J 13); rw [hμ, hwk.out]; show xs.length - (((k + 1 : Nat) : Int)).toNat < _; rw [Int.toNat_natCast]; omega)
      · have hne : (nth xs k != nth ys k) = true := by simpa using he
        have HE := hid (neq_nth he)
        clear he
        repeat (first | refine t_seq hT ?_ | refine t_block hT ?_ | refine t_skip hT ?_ | refine t_inBlock hT ?_ | refine t_rend hT ?_ | refine t_exit hT rfl ?_)
        refine t_cond hT (t := _) rfl ?_
        simp only [if_true, if_false, reduceIte, Bool.false_eq_true, *]
        repeat (first | refine t_seq hT ?_ | refine t_block hT ?_ | refine t_skip hT ?_ | refine t_inBlock hT ?_ | refine t_rend hT ?_ | refine t_exit hT rfl ?_)
        refine t_region hT [0] rfl ?_
        refine t_op hT rfl (by rfl) (by first | decide | assumption) (by first | rfl | (rw [hro]; rfl)) (fun _ hR K hK => ?_)
        replace hF := hF.trans hR
        clear hR
        go_simp
        try (unfold stored; go_simp)
        try go_ints
        refine hK _ _ y (by rw [listed_nil (by simp [go_sem, *])]; exact hT.idle _ _) ?_
        clear hK K
        try walk_nrm
        repeat (first | refine t_seq hT ?_ | refine t_block hT ?_ | refine t_skip hT ?_ | refine t_inBlock hT ?_ | refine t_rend hT ?_ | refine t_exit hT rfl ?_)
        refine t_ret hT rfl rfl rfl Try.func43 (resultsC_tmp (by rfl) _) (hc _ _ _ ⟨?_, rfl, hF⟩)
        rw [decide_eq_false HE.out]
        rfl
    · obtain rfl : k = xs.length := by omega
      have hd : decide ((xs.length : Int) < xs.length) = false := by simp
      repeat (first | refine t_seq hT ?_ | refine t_block hT ?_ | refine t_skip hT ?_ | refine t_inBlock hT ?_ | refine t_rend hT ?_ | refine t_exit hT rfl ?_)
      refine t_region hT [0] rfl ?_
      refine t_op hT rfl (by rfl) (by first | decide | assumption) (by first | rfl | (rw [hro]; rfl)) (fun _ hR K hK => ?_)
      replace hF := hF.trans hR
      clear hR
      go_simp
      try (unfold stored; go_simp)
      try go_ints
      refine hK _ _ y (by rw [listed_nil (by simp [go_sem, *])]; exact hT.idle _ _) ?_
      clear hK K
      try walk_nrm
      repeat (first | refine t_seq hT ?_ | refine t_block hT ?_ | refine t_skip hT ?_ | refine t_inBlock hT ?_ | refine t_rend hT ?_ | refine t_exit hT rfl ?_)
      refine t_cond hT (t := _) rfl ?_
      simp only [if_true, if_false, reduceIte, Bool.false_eq_true, *]
      repeat (first | refine t_seq hT ?_ | refine t_block hT ?_ | refine t_skip hT ?_ | refine t_inBlock hT ?_ | refine t_rend hT ?_ | refine t_exit hT rfl ?_)
      refine t_region hT [0] rfl ?_
      refine t_op hT rfl (by rfl) (by first | decide | assumption) (by first | rfl | (rw [hro]; rfl)) (fun _ hR K hK => ?_)
      replace hF := hF.trans hR
      clear hR
      go_simp
      try (unfold stored; go_simp)
      try go_ints
      refine hK _ _ y (by rw [listed_nil (by simp [go_sem, *])]; exact hT.idle _ _) ?_
      clear hK K
      try walk_nrm
      repeat (first | refine t_seq hT ?_ | refine t_block hT ?_ | refine t_skip hT ?_ | refine t_inBlock hT ?_ | refine t_rend hT ?_ | refine t_exit hT rfl ?_)
      refine t_ret hT rfl rfl rfl Try.func43 (resultsC_tmp (by rfl) _) (hc _ _ _ ⟨?_, rfl, hF⟩)
      have := HT.out
      rw [List.take_length, HL.out, List.take_length] at this
      rw [decide_eq_true this]
      rfl
  · have hl' : ((xs.length : Int) != (ys.length : Int)) = true := by simp; omega
    have HL := hid hl
    clear hl
    repeat (first | refine t_seq hT ?_ | refine t_block hT ?_ | refine t_skip hT ?_ | refine t_inBlock hT ?_ | refine t_rend hT ?_ | refine t_exit hT rfl ?_)
    refine t_region hT [0] rfl ?_
    refine t_op hT rfl (by rfl) (by first | decide | assumption) (by first | rfl | (rw [hro]; rfl)) (fun _ hR K hK => ?_)
    replace hF := hF.trans hR
    clear hR
    go_simp
    try (unfold stored; go_simp)
    try go_ints
    refine hK _ _ y (by rw [listed_nil (by simp [go_sem, *])]; exact hT.idle _ _) ?_
    clear hK K
    try walk_nrm
    repeat (first | refine t_seq hT ?_ | refine t_block hT ?_ | refine t_skip hT ?_ | refine t_inBlock hT ?_ | refine t_rend hT ?_ | refine t_exit hT rfl ?_)
    refine t_region hT [0, 1, 2, 3, 4] rfl ?_
    refine t_op hT rfl (by rfl) (by first | decide | assumption) (by first | rfl | (rw [hro]; rfl)) (fun _ hR K hK => ?_)
    replace hF := hF.trans hR
    clear hR
    go_simp
    try (unfold stored; go_simp)
    try go_ints
    refine hK _ _ y (by rw [listed_nil (by simp [go_sem, *])]; exact hT.idle _ _) ?_
    clear hK K
    try walk_nrm
    refine t_op hT rfl (by rfl) (by first | decide | assumption) (by first | rfl | (rw [hro]; rfl)) (fun _ hR K hK => ?_)
    replace hF := hF.trans hR
    clear hR
    go_simp
    try (unfold stored; go_simp)
    try go_ints
    refine hK _ _ y (by rw [listed_nil (by simp [go_sem, *])]; exact hT.idle _ _) ?_
    clear hK K
    try walk_nrm
    refine t_op hT rfl (by rfl) (by first | decide | assumption) (by first | rfl | (rw [hro]; rfl)) (fun _ hR K hK => ?_)
    replace hF := hF.trans hR
    clear hR
    go_simp
    try (unfold stored; go_simp)
    try go_ints
    refine hK _ _ y (by rw [listed_nil (by simp [go_sem, *])]; exact hT.idle _ _) ?_
    clear hK K
    try walk_nrm
    refine t_op hT rfl (by rfl) (by first | decide | assumption) (by first | rfl | (rw [hro]; rfl)) (fun _ hR K hK => ?_)
    replace hF := hF.trans hR
    clear hR
    go_simp
    try (unfold stored; go_simp)
    try go_ints
    refine hK _ _ y (by rw [listed_nil (by simp [go_sem, *])]; exact hT.idle _ _) ?_
    clear hK K
    try walk_nrm
    refine t_op hT rfl (by rfl) (by first | decide | assumption) (by first | rfl | (rw [hro]; rfl)) (fun _ hR K hK => ?_)
    replace hF := hF.trans hR
    clear hR
    go_simp
    try (unfold stored; go_simp)
    try go_ints
    refine hK _ _ y (by rw [listed_nil (by simp [go_sem, *])]; exact hT.idle _ _) ?_
    clear hK K
    try walk_nrm
    repeat (first | refine t_seq hT ?_ | refine t_block hT ?_ | refine t_skip hT ?_ | refine t_inBlock hT ?_ | refine t_rend hT ?_ | refine t_exit hT rfl ?_)
    refine t_cond hT (t := _) rfl ?_
    simp only [if_true, if_false, reduceIte, Bool.false_eq_true, *]
    repeat (first | refine t_seq hT ?_ | refine t_block hT ?_ | refine t_skip hT ?_ | refine t_inBlock hT ?_ | refine t_rend hT ?_ | refine t_exit hT rfl ?_)
    refine t_region hT [0] rfl ?_
    refine t_op hT rfl (by rfl) (by first | decide | assumption) (by first | rfl | (rw [hro]; rfl)) (fun _ hR K hK => ?_)
    replace hF := hF.trans hR
    clear hR
    go_simp
    try (unfold stored; go_simp)
    try go_ints
    refine hK _ _ y (by rw [listed_nil (by simp [go_sem, *])]; exact hT.idle _ _) ?_
    clear hK K
    try walk_nrm
    repeat (first | refine t_seq hT ?_ | refine t_block hT ?_ | refine t_skip hT ?_ | refine t_inBlock hT ?_ | refine t_rend hT ?_ | refine t_exit hT rfl ?_)
    refine t_ret hT rfl rfl rfl Try.func43 (resultsC_tmp (by rfl) _) (hc _ _ _ ⟨?_, rfl, hF⟩)
    rw [decide_eq_false (fun e => HL.out (by rw [e]))]
    rfl
end

end Go.Proofs.Ytkbfcaaihellfaa

/- Contracts: MapOk of the program (and of the reference, where the seat has it); alive. -/
namespace Go.Proofs.Ytkbfcaaihellfaa
open Go.RowKit
set_option linter.unusedVariables false


theorem has_t (A : Option Addr) (n c : Nat) (z : Int) (w : World) (h : 0 ≤ z ∧ z < n) :
    Calls Try.prog 70 #[.slice A n c, .int .i64 z] w fun e w' => e = .returned (.bool true) ∧ w = w' := by
  obtain ⟨h1, h2⟩ := h
  go_enter Try.func70, Try.ntmps70
  go_wp2_with fail
  all_goals go_ret
  all_goals exact ⟨ret_bool (by first | rfl | (simp; omega)), rfl⟩
theorem has_f (A : Option Addr) (n c : Nat) (z : Int) (w : World) (h : ¬ (0 ≤ z ∧ z < n)) :
    Calls Try.prog 70 #[.slice A n c, .int .i64 z] w fun e w' => e = .returned (.bool false) ∧ w = w' := by
  go_enter Try.func70, Try.ntmps70
  go_wp2_with fail
  all_goals go_ret
  all_goals exact ⟨ret_bool (by first | rfl | (simp; omega)), rfl⟩

theorem ok_c (A : Option Addr) (c : Nat) (xs : List Int) (w : World) (hR : RdA w A xs) (hn : xs.length ≤ 1048577) :
    Calls Try.prog 56 #[.slice A xs.length c] w fun e w' => e = .returned (.bool (mapOkB xs)) ∧ w = w' := by
  by_cases hl : 1 ≤ xs.length ∧ xs.length ≤ 7
  · obtain ⟨hl1, hl2⟩ := hl
    go_enter Try.func56, Try.ntmps56
    go_wp2_with fail
    go_loop [15] (fun i => ∃ k : Nat, k ≤ xs.length ∧ i = .int .i64 k ∧ Hid (∀ j, j < k → 0 ≤ nth xs j ∧ nth xs j < xs.length)) (fun i => xs.length - (intOf i).toNat)
    case atStart => exact ⟨0, Nat.zero_le _, rfl, hid (fun j hj => by omega)⟩
    case round =>
      obtain ⟨k, hk, rfl, hall⟩ := hrel
      by_cases hlt : k < xs.length
      · obtain ⟨ad, rfl, hc⟩ := hR k hlt
        clear hR
        by_cases hx : 0 ≤ nth xs k ∧ nth xs k < xs.length
        · go_wp2_with fail
          refine (has_t _ _ _ _ _ hx).mono ?_; rintro e w' ⟨rfl, rfl⟩
          have HX := hid hx
          clear hx
          go_wp2_with fail
          go_round
          case rel => exact ⟨k + 1, by omega, by go_num, hid (fun j hj => by rcases Nat.lt_succ_iff_lt_or_eq.1 hj with h | rfl; exact hall.out j h; exact HX.out)⟩
          case measure => simp [intOf]; omega
        · have HN := hid (mapOkB_no hlt hx)
          go_wp2_with fail
          refine (has_f _ _ _ _ _ hx).mono ?_; rintro e w' ⟨rfl, rfl⟩
          go_wp2_with fail
          go_ret
          exact ⟨ret_bool HN.out.symm, rfl⟩
      · obtain rfl : k = xs.length := by omega
        have HN := hid (mapOkB_all hall.out)
        clear hR
        go_wp2_with fail
        go_ret
        exact ⟨ret_bool (by rw [HN.out]; simp; omega), rfl⟩
  · have HN := hid (mapOkB_len hl)
    by_cases h1 : xs.length < 1
    · clear hl hR
      go_enter Try.func56, Try.ntmps56
      go_wp2_with fail
      go_ret
      exact ⟨ret_bool HN.out.symm, rfl⟩
    · have h7 : 7 < xs.length := by omega
      have h1' : decide ((xs.length : Int) < 1) = false := by simp; omega
      clear hl hR h1
      go_enter Try.func56, Try.ntmps56
      go_wp2_with fail
      go_ret
      exact ⟨ret_bool HN.out.symm, rfl⟩

theorem iMapOk_c (A : Option Addr) (c : Nat) (xs : List Int) (w : World) (hR : RdA w A xs) (hn : xs.length ≤ 1048577) :
    Calls Try.prog 40 #[.slice A xs.length c] w fun e w' => e = .returned (.bool (mapOkB xs)) ∧ w = w' := by
  have h := ok_c A c xs w hR hn
  clear hR
  go_enter Try.func40, Try.ntmps40
  go_wp2_with fail
  refine h.mono ?_; rintro e w' ⟨rfl, rfl⟩
  go_wp2_with fail
  go_ret
  exact ⟨rfl, rfl⟩

theorem two_new (w : World) (x y : Int) : Own w.heap.size (w.alloc (.cells #[.int .i64 x, .int .i64 y] 3)) (.slice (some ⟨w.heap.size, 0, none⟩) 2 2) [x, y] :=
  Own.new_ w [x, y] #[.int .i64 x, .int .i64 y] rfl (by show 2 ≤ maxLen; decide)

theorem alive_c (w : World) :
    Calls Try.prog 21 #[] w fun e w' => e = .returned (.bool true) ∧ Below w.heap.size w w' := by
  have h1 := iMapOk_c (some ⟨w.heap.size, 0, none⟩) 2 [1, 0] _ (two_new w 1 0).rd (by decide)
  have h2 := iMapOk_c (some ⟨(w.alloc (.cells #[.int .i64 1, .int .i64 0] 3)).heap.size, 0, none⟩) 2 [2, 0] _ (two_new (w.alloc (.cells #[.int .i64 1, .int .i64 0] 3)) 2 0).rd (by decide)
  rw [show mapOkB [1, 0] = true by decide] at h1
  rw [show mapOkB [2, 0] = false by decide] at h2
  simp only [World.size_alloc] at h2
  have H1 := hid h1
  have H2 := hid h2
  clear h1 h2
  go_enter Try.func21, Try.ntmps21
  go_wp2_with fail
  refine H1.out.mono ?_; rintro e w' ⟨rfl, rfl⟩
  go_wp2_with fail
  refine H2.out.mono ?_; rintro e w' ⟨rfl, rfl⟩
  go_wp2_with fail
  go_ret
  exact ⟨rfl, ((Below.refl _ _).alloc (Nat.le_refl _) _).alloc (by simp) _⟩

end Go.Proofs.Ytkbfcaaihellfaa

/- Plain law: maps behind each other, turned maps. No program in sight. -/
namespace Go.Proofs.Ytkbfcaaihellfaa
set_option linter.unusedVariables false

/-- numbers as Go has them -/
def ints (l : List Nat) : List Int := l.map Int.ofNat
theorem ints_len (l : List Nat) : (ints l).length = l.length := by simp [ints]
theorem nth_ints {l : List Nat} {k : Nat} (h : k < l.length) : nth (ints l) k = (l[k] : Int) := by simp [nth, ints, h]
theorem ints_append (l r : List Nat) : ints (l ++ r) = ints l ++ ints r := by simp [ints]
theorem ints_inj {l r : List Nat} (h : ints l = ints r) : l = r := by
  unfold ints at h
  exact (List.map_inj_right (fun a b e => by injection e)).1 h

/-- the map that does what F tells -/
def mk (n : Nat) (F : Nat → Nat) : List Int := ints ((List.range n).map F)
theorem mk_len (n : Nat) (F : Nat → Nat) : (mk n F).length = n := by simp [mk, ints_len]
theorem nth_mk {n : Nat} {F : Nat → Nat} {k : Nat} (h : k < n) : nth (mk n F) k = (F k : Int) := by
  rw [mk, nth_ints (by simpa using h)]
  simp
theorem ap_mk {n : Nat} {F : Nat → Nat} {k : Nat} (h : k < n) : ap (mk n F) k = F k := by simp [ap, nth_mk h]
theorem mk_succ (n : Nat) (F : Nat → Nat) : mk (n + 1) F = mk n F ++ [(F n : Int)] := by simp [mk, ints, List.range_succ]
theorem good_mk {n : Nat} {F : Nat → Nat} (hn : 1 ≤ n ∧ n ≤ 7) (hF : ∀ k, k < n → F k < n) : Good (mk n F) := by
  refine ⟨by rw [mk_len]; exact hn, fun k hk => ?_⟩
  rw [mk_len] at hk ⊢
  rw [nth_mk hk]
  have := hF k hk
  omega
theorem ext_nth {xs ys : List Int} (hl : xs.length = ys.length) (h : ∀ k, k < xs.length → nth xs k = nth ys k) : xs = ys := by
  apply List.ext_getElem hl
  intro k h1 h2
  have := h k h1
  rwa [nth_lt h1, nth_lt h2] at this
theorem eq_mk {xs : List Int} (h : Good xs) : xs = mk xs.length (ap xs) := by
  refine ext_nth (by rw [mk_len]) (fun k hk => ?_)
  rw [nth_mk hk, h.nth_ap hk]
theorem mk_congr {n : Nat} {F G : Nat → Nat} (h : ∀ k, k < n → F k = G k) : mk n F = mk n G := by
  refine ext_nth (by rw [mk_len, mk_len]) (fun k hk => ?_)
  rw [mk_len] at hk
  rw [nth_mk hk, nth_mk hk, h k hk]
theorem mk_eq_iff {n : Nat} {F G : Nat → Nat} : mk n F = mk n G ↔ ∀ k, k < n → F k = G k := by
  refine ⟨fun h k hk => ?_, mk_congr⟩
  have : nth (mk n F) k = nth (mk n G) k := by rw [h]
  rw [nth_mk hk, nth_mk hk] at this
  omega
theorem good_ext {xs ys : List Int} (h : Good xs) (h' : Good ys) (hl : xs.length = ys.length) (he : ∀ k, k < xs.length → ap xs k = ap ys k) : xs = ys := by
  refine ext_nth hl (fun k hk => ?_)
  rw [h.nth_ap hk, h'.nth_ap (by omega), he k hk]

/-! ### SameOf, BehindOf -/
def sameL (n : Int) : List Int := if 1 ≤ n ∧ n ≤ 7 then mk n.toNat (fun k => k) else []
def behindL (f g : List Int) : List Int := if mapOkB f = true ∧ mapOkB g = true ∧ f.length = g.length then mk f.length (fun k => ap g (ap f k)) else []
theorem behindL_good {f g : List Int} (hf : Good f) (hg : Good g) (hl : f.length = g.length) : behindL f g = mk f.length (fun k => ap g (ap f k)) := by
  unfold behindL
  rw [if_pos ⟨ok_of hf, ok_of hg, hl⟩]
theorem behindL_no {f g : List Int} (h : ¬ (mapOkB f = true ∧ mapOkB g = true ∧ f.length = g.length)) : behindL f g = [] := by
  unfold behindL
  rw [if_neg h]
theorem good_behind {f g : List Int} (hf : Good f) (hg : Good g) (hl : f.length = g.length) : Good (behindL f g) ∧ (behindL f g).length = f.length := by
  rw [behindL_good hf hg hl]
  refine ⟨good_mk hf.1 (fun k hk => ?_), mk_len _ _⟩
  rw [hl]
  exact hg.ap_lt (by rw [← hl]; exact hf.ap_lt hk)
theorem behindL_len (f g : List Int) (h : f.length ≤ 1048577) : (behindL f g).length ≤ 1048577 := by
  unfold behindL
  split
  · rw [mk_len]; exact h
  · simp

/-! ### maps that can be turned round -/
/-- just one thing is led to each -/
def Inj (f : List Int) : Prop := ∀ i j, i < f.length → j < f.length → ap f i = ap f j → i = j
def injB (f : List Int) : Bool := (List.range f.length).all fun i => (List.range f.length).all fun j => !(nth f i == nth f j) || i == j
theorem injB_iff {f : List Int} (hf : Good f) : injB f = true ↔ Inj f := by
  simp only [injB, List.all_eq_true, List.mem_range, Bool.or_eq_true, Bool.not_eq_true', beq_eq_false_iff_ne, ne_eq, beq_iff_eq, Inj]
  constructor
  · intro h i j hi hj e
    rcases h i hi j hj with h1 | h1
    · exact absurd (by rw [hf.nth_ap hi, hf.nth_ap hj, e]) h1
    · exact h1
  · intro h i hi j hj
    by_cases e : nth f i = nth f j
    · right
      refine h i j hi hj ?_
      unfold ap
      rw [e]
    · left; exact e

theorem inj_surj {f : List Int} (hf : Good f) (hi : Inj f) {x : Nat} (hx : x < f.length) : ∃ k, k < f.length ∧ ap f k = x := by
  refine Classical.byContradiction fun hno => ?_
  have hn : ((List.range f.length).map (ap f)).Nodup := by
    rw [List.nodup_iff_pairwise_ne, List.pairwise_map]
    refine List.pairwise_iff_getElem.2 fun i j h1 h2 hij e => ?_
    simp only [List.length_range] at h1 h2
    simp only [List.getElem_range] at e
    have := hi i j h1 h2 e
    omega
  have h1 := nodup_lt_len f.length (x :: (List.range f.length).map (ap f)) (by
    rw [List.nodup_cons]
    refine ⟨fun hm => ?_, hn⟩
    obtain ⟨k, hk, e⟩ := List.mem_map.1 hm
    exact hno ⟨k, List.mem_range.1 hk, e⟩) (by
    intro y hy
    rcases List.mem_cons.1 hy with rfl | hy
    · exact hx
    · obtain ⟨k, hk, e⟩ := List.mem_map.1 hy
      rw [← e]
      exact hf.ap_lt (List.mem_range.1 hk))
  simp at h1
  omega

/-- the thing that is led to x -/
def back (f : List Int) (x : Nat) : Nat := ((List.range f.length).map (ap f)).idxOf x
theorem back_spec {f : List Int} (hf : Good f) (hi : Inj f) {x : Nat} (hx : x < f.length) : back f x < f.length ∧ ap f (back f x) = x := by
  obtain ⟨k, hk, e⟩ := inj_surj hf hi hx
  have hm : x ∈ (List.range f.length).map (ap f) := List.mem_map.2 ⟨k, List.mem_range.2 hk, e⟩
  have h1 := List.idxOf_lt_length_of_mem hm
  have h2 := List.getElem_idxOf h1
  simp only [List.getElem_map, List.getElem_range] at h2
  refine ⟨by unfold back; simpa using h1, h2⟩
theorem back_ap {f : List Int} (hf : Good f) (hi : Inj f) {k : Nat} (hk : k < f.length) : back f (ap f k) = k :=
  hi _ _ (back_spec hf hi (hf.ap_lt hk)).1 hk (back_spec hf hi (hf.ap_lt hk)).2

/-- what TurnedOf hands back -/
def turnedB (f : List Int) : Bool := mapOkB f && injB f
def turnedL (f : List Int) : List Int := if turnedB f = true then mk f.length (back f) else []
theorem turnedB_iff {f : List Int} : turnedB f = true ↔ Good f ∧ Inj f := by
  unfold turnedB
  rw [Bool.and_eq_true]
  constructor
  · rintro ⟨h1, h2⟩
    exact ⟨good_of h1, (injB_iff (good_of h1)).1 h2⟩
  · rintro ⟨h1, h2⟩
    exact ⟨ok_of h1, (injB_iff h1).2 h2⟩

/-- A MAP CAN BE TURNED ROUND EXACTLY IF ALL THINGS ARE ON LOOPS -/
theorem inj_iff_tails {f : List Int} (hf : Good f) : Inj f ↔ ∀ t, t < f.length → tail f t = 0 := by
  constructor
  · intro hi t ht
    rcases Nat.eq_zero_or_pos (tail f t) with h0 | h0
    · exact h0
    · exfalso
      have hl := loop_pos hf ht
      have e := it_round hf ht (Nat.le_refl (tail f t))
      have e1 : ap f (it f (tail f t - 1 + loop f t) t) = ap f (it f (tail f t - 1) t) := by
        show it f (tail f t - 1 + loop f t + 1) t = it f (tail f t - 1 + 1) t
        rw [show tail f t - 1 + loop f t + 1 = tail f t + loop f t by omega, show tail f t - 1 + 1 = tail f t by omega]
        exact e
      have e2 := hi _ _ (hf.it_lt ht _) (hf.it_lt ht _) e1
      have := (it_eq_iff hf ht (show tail f t - 1 < tail f t - 1 + loop f t by omega)).1 e2.symm
      omega
  · intro hz i j hi hj e
    have hli := loop_pos hf hi
    have hlj := loop_pos hf hj
    have e1 := it_round hf hi (a := 0) (by rw [hz i hi]; omega)
    have e2 := it_round hf hj (a := 0) (by rw [hz j hj]; omega)
    have l1 := loop_next hf hi
    have l2 := loop_next hf hj
    rw [Nat.zero_add, show loop f i = loop f i - 1 + 1 by omega, it_succ'] at e1
    rw [Nat.zero_add, show loop f j = loop f j - 1 + 1 by omega, it_succ'] at e2
    rw [← l1] at e1
    rw [← l2] at e2
    rw [e] at e1
    have : it f 0 i = it f 0 j := e1.symm.trans e2
    exact this

end Go.Proofs.Ytkbfcaaihellfaa

/- Contracts of chapter 1 (and WithOk). -/
namespace Go.Proofs.Ytkbfcaaihellfaa
open Go.RowKit
set_option linter.unusedVariables false

set_option maxHeartbeats 400000 in
theorem sameInts_c (A B : Option Addr) (c d : Nat) (xs ys : List Int) (w : World) (hR : RdA w A xs) (hS : RdA w B ys) (hn : xs.length ≤ 1048577) (hm : ys.length ≤ 1048577) :
    Calls Try.prog 22 #[.slice A xs.length c, .slice B ys.length d] w fun e w' => e = .returned (.bool (decide (xs = ys))) ∧ Below w.heap.size w w' := by
  by_cases hl : xs.length = ys.length
  · have hl' : ((xs.length : Int) == (ys.length : Int)) = true := by simp [hl]
    have HL := hid hl
    have e1 : ys.length = xs.length := hl.symm
    rw [e1] at hl' hm ⊢
    clear e1 hl
    go_enter Try.func22, Try.ntmps22
    go_wp2
    go_loopw [5] (fun i wr => ∃ k : Nat, k ≤ xs.length ∧ i = .int .i64 k ∧ xs.take k = ys.take k ∧ Below w.heap.size w wr) (fun i _ => xs.length - (intOf i).toNat)
    case atStart => exact ⟨0, Nat.zero_le _, rfl, rfl, Below.refl _ _⟩
    case round =>
      obtain ⟨k, hk, rfl, ht, hb⟩ := hrel
      have HT := hid ht
      clear ht
      by_cases hlt : k < xs.length
      · obtain ⟨ad, rfl, hc⟩ := (hR.below hb) k hlt
        obtain ⟨bd, rfl, hc2⟩ := (hS.below hb) k (by have := HL.out; omega)
        clear hR hS
        have HB := hid hb
        clear hb
        by_cases he : nth xs k = nth ys k
        · have HE := hid (eqlen HL.out hlt HT.out he)
          rw [he] at hc
          go_wp2
          go_region
          all_goals go_wp2
          all_goals go_roundw
          case rel => exact ⟨k + 1, by omega, by go_num, HE.out, HB.out.drew⟩
          case measure => simp [intOf]; omega
        · have hne : (nth xs k == nth ys k) = false := by simpa using he
          have HE := hid (neq_nth he)
          clear he
          go_wp2
          go_region
          all_goals go_wp2
          all_goals go_ret
          all_goals exact ⟨ret_bool (by simp [HE.out]), HB.out.drew⟩
      · obtain rfl : k = xs.length := by omega
        have HB := hid hb
        clear hb
        go_wp2
        go_ret
        refine ⟨ret_bool ?_, HB.out⟩
        have := HT.out
        rw [List.take_length, HL.out, List.take_length] at this
        simp [this]
  · have hl' : ((xs.length : Int) == (ys.length : Int)) = false := by simp; omega
    have HL := hid hl
    clear hl
    go_enter Try.func22, Try.ntmps22
    go_wp2
    go_ret
    exact ⟨ret_bool (by simp; intro e; exact HL.out (by rw [e])), Below.refl _ _⟩
theorem sameInts_t (A B : Option Addr) (c d : Nat) (xs ys : List Int) (w : World) (hR : RdA w A xs) (hS : RdA w B ys) (hn : xs.length ≤ 1048577) (hm : ys.length ≤ 1048577) (h : xs = ys) :
    Calls Try.prog 22 #[.slice A xs.length c, .slice B ys.length d] w fun e w' => e = .returned (.bool true) ∧ Below w.heap.size w w' := by
  have := sameInts_c A B c d xs ys w hR hS hn hm
  rwa [decide_eq_true h] at this
theorem sameInts_f (A B : Option Addr) (c d : Nat) (xs ys : List Int) (w : World) (hR : RdA w A xs) (hS : RdA w B ys) (hn : xs.length ≤ 1048577) (hm : ys.length ≤ 1048577) (h : xs ≠ ys) :
    Calls Try.prog 22 #[.slice A xs.length c, .slice B ys.length d] w fun e w' => e = .returned (.bool false) ∧ Below w.heap.size w w' := by
  have := sameInts_c A B c d xs ys w hR hS hn hm
  rwa [decide_eq_false h] at this

set_option maxHeartbeats 400000 in
theorem equal_c (A B : Option Addr) (c d : Nat) (xs ys : List Int) (w : World) (hR : RdA w A xs) (hS : RdA w B ys) (hn : xs.length ≤ 1048577) (hm : ys.length ≤ 1048577) :
    Calls Try.prog 43 #[.slice A xs.length c, .slice B ys.length d] w fun e w' => e = .returned (.bool (decide (xs = ys))) ∧ Below w.heap.size w w' := by
  by_cases hl : xs.length = ys.length
  · have hl' : ((xs.length : Int) == (ys.length : Int)) = true := by simp [hl]
    have HL := hid hl
    have e1 : ys.length = xs.length := hl.symm
    rw [e1] at hl' hm ⊢
    clear e1 hl
    go_enter Try.func43, Try.ntmps43
    go_wp2
    go_loopw [13] (fun i wr => ∃ k : Nat, k ≤ xs.length ∧ i = .int .i64 k ∧ xs.take k = ys.take k ∧ Below w.heap.size w wr) (fun i _ => xs.length - (intOf i).toNat)
    case atStart => exact ⟨0, Nat.zero_le _, rfl, rfl, Below.refl _ _⟩
    case round =>
      obtain ⟨k, hk, rfl, ht, hb⟩ := hrel
      have HT := hid ht
      clear ht
      by_cases hlt : k < xs.length
      · obtain ⟨ad, rfl, hc⟩ := (hR.below hb) k hlt
        obtain ⟨bd, rfl, hc2⟩ := (hS.below hb) k (by have := HL.out; omega)
        clear hR hS
        have HB := hid hb
        clear hb
        by_cases he : nth xs k = nth ys k
        · have HE := hid (eqlen HL.out hlt HT.out he)
          rw [he] at hc
          go_wp2
          go_region
          all_goals go_wp2
          all_goals go_roundw
          case rel => exact ⟨k + 1, by omega, by go_num, HE.out, HB.out.drew⟩
          case measure => simp [intOf]; omega
        · have hne : (nth xs k == nth ys k) = false := by simpa using he
          have HE := hid (neq_nth he)
          clear he
          go_wp2
          go_region
          all_goals go_wp2
          all_goals go_ret
          all_goals exact ⟨ret_bool (by simp [HE.out]), HB.out.drew⟩
      · obtain rfl : k = xs.length := by omega
        have HB := hid hb
        clear hb
        go_wp2
        go_ret
        refine ⟨ret_bool ?_, HB.out⟩
        have := HT.out
        rw [List.take_length, HL.out, List.take_length] at this
        simp [this]
  · have hl' : ((xs.length : Int) == (ys.length : Int)) = false := by simp; omega
    have HL := hid hl
    clear hl
    go_enter Try.func43, Try.ntmps43
    go_wp2
    go_ret
    exact ⟨ret_bool (by simp; intro e; exact HL.out (by rw [e])), Below.refl _ _⟩


theorem sMapOk_c (A : Option Addr) (c : Nat) (xs : List Int) (w : World) (hR : RdA w A xs) (hn : xs.length ≤ 1048577) :
    Calls Try.prog 36 #[.slice A xs.length c] w fun e w' => e = .returned (.bool (mapOkB xs)) ∧ w = w' := by
  go_enter Try.func36, Try.ntmps36
  go_wp2_with fail
  go_loop [3] (fun i => ∃ k : Nat, k ≤ xs.length ∧ i = .int .i64 k ∧ Hid (∀ j, j < k → 0 ≤ nth xs j ∧ nth xs j < xs.length)) (fun i => xs.length - (intOf i).toNat)
  case atStart => exact ⟨0, Nat.zero_le _, rfl, hid (fun j hj => by omega)⟩
  case round =>
    obtain ⟨k, hk, rfl, hall⟩ := hrel
    by_cases hlt : k < xs.length
    · obtain ⟨ad, rfl, hc⟩ := hR k hlt
      clear hR
      by_cases hx : 0 ≤ nth xs k ∧ nth xs k ≤ (xs.length : Int) - 1
      · go_wp2_with fail
        refine (l1In_t _ _ _ _ hx).mono ?_; rintro e w' ⟨rfl, rfl⟩
        have HX := hid hx
        clear hx
        go_wp2_with fail
        go_round
        case rel => exact ⟨k + 1, by omega, by go_num, hid (fun j hj => by
          rcases Nat.lt_succ_iff_lt_or_eq.1 hj with h | rfl
          · exact hall.out j h
          · have := HX.out; omega)⟩
        case measure => simp [intOf]; omega
      · have HN := hid (mapOkB_no hlt (fun h => hx (by omega)))
        go_wp2_with fail
        refine (l1In_f _ _ _ _ hx).mono ?_; rintro e w' ⟨rfl, rfl⟩
        go_wp2_with fail
        go_ret
        exact ⟨ret_bool HN.out.symm, rfl⟩
    · obtain rfl : k = xs.length := by omega
      have HN := hid (mapOkB_all hall.out)
      clear hR
      by_cases hl : (1 : Int) ≤ xs.length ∧ (xs.length : Int) ≤ 7
      · go_wp2_with fail
        refine (l1In_t _ _ _ _ hl).mono ?_; rintro e w' ⟨rfl, rfl⟩
        go_wp2_with fail
        go_ret
        exact ⟨ret_bool (by rw [HN.out]; simp; omega), rfl⟩
      · go_wp2_with fail
        refine (l1In_f _ _ _ _ hl).mono ?_; rintro e w' ⟨rfl, rfl⟩
        go_wp2_with fail
        go_ret
        exact ⟨ret_bool (by rw [HN.out]; simp; omega), rfl⟩

/-- a new slice that holds xs, nil just where there is none -/
def RetN (w : World) (xs : List Int) (e : Ending) (w' : World) : Prop := ∃ A c, e = .returned (.slice A xs.length c) ∧ Own w.heap.size w' (.slice A xs.length c) xs ∧ Below w.heap.size w w' ∧ (xs = [] → A = none ∧ c = 0)
theorem RetN.ret {w : World} {xs : List Int} {e : Ending} {w' : World} (h : RetN w xs e w') : RetI w xs e w' := by
  obtain ⟨A, c, h1, h2, h3, _⟩ := h
  exact ⟨A, c, h1, h2, h3⟩
theorem RetN.nil (w : World) : RetN w [] (.returned (.slice none 0 0)) w := ⟨none, 0, rfl, Own.nil _ _, Below.refl _ _, fun _ => ⟨rfl, rfl⟩⟩
theorem retN_mk {w wr : World} {n c : Nat} {A : Option Addr} {F : Nat → Nat} {L : List Int} (h : L = mk n F) (ho : Own w.heap.size wr (.slice A n c) (mk n F)) (hb : Below w.heap.size w wr) (hn : 1 ≤ n) : RetN w L (.returned (.slice A n c)) wr := by
  subst h
  refine ⟨A, c, by rw [mk_len], by rw [mk_len]; exact ho, hb, fun e => ?_⟩
  have := congrArg List.length e
  rw [mk_len] at this
  simp at this
  omega
/-- n places filled up to the k-th by F, noughts behind -/
def upTo (n : Nat) (F : Nat → Nat) (k : Nat) : List Int := mk k F ++ List.replicate (n - k) 0
theorem upTo_len {n : Nat} {F : Nat → Nat} {k : Nat} (h : k ≤ n) : (upTo n F k).length = n := by simp [upTo, mk_len]; omega
theorem upTo_zero (n : Nat) (F : Nat → Nat) : upTo n F 0 = List.replicate n 0 := by simp [upTo, mk, ints]
theorem upTo_all (n : Nat) (F : Nat → Nat) : upTo n F n = mk n F := by simp [upTo]
theorem upTo_set {n : Nat} {F : Nat → Nat} {k : Nat} (h : k < n) : (upTo n F k).set k (F k : Int) = upTo n F (k + 1) := by
  unfold upTo
  rw [List.set_append_right _ _ (by rw [mk_len]; omega), mk_len, Nat.sub_self, mk_succ, show n - k = (n - (k + 1)) + 1 by omega, List.replicate_succ, List.set_cons_zero, List.append_assoc]
  rfl

theorem iSameOf_c (n : Int) (w : World) :
    Calls Try.prog 23 #[.int .i64 n] w (RetN w (sameL n)) := by
  by_cases h : 1 ≤ n ∧ n ≤ 7
  · obtain ⟨N, rfl⟩ := Int.eq_ofNat_of_zero_le (show 0 ≤ n by omega)
    have HE := hid (show sameL N = mk N (fun k => k) by unfold sameL; rw [if_pos h, Int.toNat_natCast])
    have h1 : 1 ≤ N := by omega
    have h7 : N ≤ 7 := by omega
    clear h
    go_enter Try.func23, Try.ntmps23
    go_wp2_with (at_make; refine wpList_mk _ rfl _ _ rfl _ N rfl rfl rfl (by omega) ?_; intro w1 hown hb)
    go_loopw [15] (fun i wr => ∃ k : Nat, k ≤ N ∧ i = .int .i64 k ∧ Own w.heap.size wr (.slice (some ⟨w.heap.size, 0, none⟩) N N) (upTo N (fun k => k) k) ∧ Below w.heap.size w wr) (fun i _ => N - (intOf i).toNat)
    case atStart => exact ⟨0, Nat.zero_le _, rfl, by rw [upTo_zero]; exact hown, hb⟩
    case round =>
      clear hown hb
      obtain ⟨k, hk, rfl, hown, hb⟩ := hrel
      by_cases hlt : k < N
      · have hc2 := hown.cell (k := k) (by rw [upTo_len hk]; exact hlt)
        have hf2 := hown.frozen k
        have hs := hown.store k (k : Int)
        rw [upTo_set (F := fun k => k) hlt] at hs
        have hbs := hb.setCell (p := ⟨w.heap.size, k, none⟩) (Nat.le_refl _) (.int .i64 (k : Int))
        clear hown hb
        go_wp2
        go_roundw
        case rel => exact ⟨k + 1, by omega, by go_num, hs, hbs⟩
        case measure => simp [intOf]; omega
      · obtain rfl : k = N := by omega
        rw [upTo_all] at hown
        go_wp2
        go_ret
        exact retN_mk HE.out hown hb (by omega)
  · have HE := hid (show sameL n = [] by unfold sameL; rw [if_neg h])
    by_cases h1 : n < 1
    · clear h
      go_enter Try.func23, Try.ntmps23
      go_wp2_with fail
      go_ret
      rw [HE.out]
      exact RetN.nil w
    · have h2 : 7 < n := by omega
      have h1' : decide (n < 1) = false := by simp; omega
      clear h h1
      go_enter Try.func23, Try.ntmps23
      go_wp2_with fail
      go_ret
      rw [HE.out]
      exact RetN.nil w

set_option maxHeartbeats 800000 in
theorem iBehindOf_c (A B : Option Addr) (c d : Nat) (f g : List Int) (w : World) (hR : RdA w A f) (hS : RdA w B g) (hn : f.length ≤ 1048577) (hm : g.length ≤ 1048577) :
    Calls Try.prog 25 #[.slice A f.length c, .slice B g.length d] w (RetN w (behindL f g)) := by
  have c1 := iMapOk_c A c f w hR hn
  have c2 := iMapOk_c B d g w hS hm
  by_cases hf : mapOkB f = true
  · rw [hf] at c1
    by_cases hg : mapOkB g = true
    · rw [hg] at c2
      have gf := good_of hf
      have gg := good_of hg
      by_cases hl : f.length = g.length
      · have HE := hid (behindL_good gf gg hl)
        have HG := hid gg
        have HF := hid gf
        have h1 := gf.1.1
        have h7 := gf.1.2
        have C1 := hid c1
        have C2 := hid c2
        have e1 : g.length = f.length := hl.symm
        have HL := hid hl
        rw [e1] at C2 hm ⊢
        clear hf hg gf gg hl c1 c2 e1
        go_enter Try.func25, Try.ntmps25
        go_wp2_with fail
        refine C1.out.mono ?_; rintro e w' ⟨rfl, rfl⟩
        go_wp2_with fail
        refine C2.out.mono ?_; rintro e w' ⟨rfl, rfl⟩
        go_wp2_with (at_make; refine wpList_mk _ rfl _ _ rfl _ f.length rfl rfl rfl (by omega) ?_; intro w1 hown hb)
        go_loopw [28] (fun i wr => ∃ k : Nat, k ≤ f.length ∧ i = .int .i64 k ∧ Own w.heap.size wr (.slice (some ⟨w.heap.size, 0, none⟩) f.length f.length) (upTo f.length (fun k => ap g (ap f k)) k) ∧ Below w.heap.size w wr) (fun i _ => f.length - (intOf i).toNat)
        case atStart => exact ⟨0, Nat.zero_le _, rfl, by rw [upTo_zero]; exact hown, hb⟩
        case round =>
          clear hown hb
          obtain ⟨k, hk, rfl, hown, hb⟩ := hrel
          by_cases hlt : k < f.length
          · obtain ⟨ad, rfl, hc⟩ := (hR.below hb) k hlt
            have hlt2 := HF.out.ap_lt hlt
            rw [HF.out.nth_ap hlt] at hc
            obtain ⟨bd, rfl, hc3⟩ := (hS.below hb) (ap f k) (by have := HL.out; omega)
            rw [HG.out.nth_ap (by have := HL.out; omega)] at hc3
            have hc2 := hown.cell (k := k) (by rw [upTo_len hk]; exact hlt)
            have hf2 := hown.frozen k
            have hs := hown.store k (ap g (ap f k) : Int)
            rw [upTo_set (F := fun k => ap g (ap f k)) hlt] at hs
            have hbs := hb.setCell (p := ⟨w.heap.size, k, none⟩) (Nat.le_refl _) (.int .i64 (ap g (ap f k) : Int))
            clear hown hb hR hS
            generalize ap g (ap f k) = Y at *
            generalize ap f k = X at *
            go_wp2
            go_roundw
            case rel => exact ⟨k + 1, by omega, by go_num, hs, hbs⟩
            case measure => simp [intOf]; omega
          · obtain rfl : k = f.length := by omega
            rw [upTo_all] at hown
            clear hR hS
            go_wp2
            go_ret
            exact retN_mk HE.out hown hb (by omega)
      · have HE := hid (behindL_no (f := f) (g := g) (fun h => hl h.2.2))
        have q1 : ((f.length : Int) == (g.length : Int)) = false := by simp; omega
        clear hf hg gf gg hl hR hS
        go_enter Try.func25, Try.ntmps25
        go_wp2_with fail
        refine c1.mono ?_; rintro e w' ⟨rfl, rfl⟩
        go_wp2_with fail
        refine c2.mono ?_; rintro e w' ⟨rfl, rfl⟩
        go_wp2_with fail
        go_ret
        rw [HE.out]
        exact RetN.nil w
    · have HE := hid (behindL_no (f := f) (g := g) (fun h => hg h.2.1))
      rw [show mapOkB g = false by simpa using hg] at c2
      clear hf hg hR hS
      go_enter Try.func25, Try.ntmps25
      go_wp2_with fail
      refine c1.mono ?_; rintro e w' ⟨rfl, rfl⟩
      go_wp2_with fail
      refine c2.mono ?_; rintro e w' ⟨rfl, rfl⟩
      go_wp2_with fail
      go_ret
      rw [HE.out]
      exact RetN.nil w
  · have HE := hid (behindL_no (f := f) (g := g) (fun h => hf h.1))
    rw [show mapOkB f = false by simpa using hf] at c1
    clear hf hR hS c2
    go_enter Try.func25, Try.ntmps25
    go_wp2_with fail
    refine c1.mono ?_; rintro e w' ⟨rfl, rfl⟩
    go_wp2_with fail
    go_ret
    rw [HE.out]
    exact RetN.nil w

end Go.Proofs.Ytkbfcaaihellfaa
