/- Steps on the way to the law; each part says what it proves. -/
import Derived.Test.YtkbfcaaihellfaaV12
import Derived.Test.YtkbfcaaihellfaaV8

set_option linter.unusedSimpArgs false

/- Walks in company: MapOk, slices.Equal. -/
namespace Go.Proofs.Ytkbfcaaihellfaa
open Go.Conc Go.ConcN Go.RowKit
set_option linter.unusedVariables false
set_option linter.unusedSectionVars false

section
variable [Go.ConcR.Payload] {main : Bool} {ty : TypeId} {Wg : Nat} {S : Nat → Prop} {T : Gh → Goroutine → World → Prop} {y : Gh} {w : World}
set_option maxHeartbeats 400000 in
theorem mapOk_g (hT : Clo Try.prog main (RG ty Wg S) (DG main Wg S) T) (A : Option Addr) (c : Nat) (xs : List Int) (hR : RdA w A xs) (hS : Sees y S A) (hn : xs.length ≤ 1048577) : CallsT Try.prog T 40 #[.slice A xs.length c] y w fun v y' w' => v = .bool (mapOkB xs) ∧ y = y' ∧ RG ty Wg S y w w' := by
  refine callsT_of Try.func40 rfl fun fr cs hc => ?_
  simp only [Try.ntmps40, List.size_toArray, List.length_cons, List.length_nil, Nat.reduceAdd, Nat.reduceSub, Array.replicate_succ, Array.replicate_zero, List.push_toArray, List.append_toArray, List.nil_append, List.cons_append]
  have hF : RG ty Wg S y w w := RM.refl w
  repeat (first | refine t_seq hT ?_ | refine t_block hT ?_ | refine t_skip hT ?_ | refine t_inBlock hT ?_ | refine t_rend hT ?_ | refine t_exit hT rfl ?_)
  refine t_region hT [0] rfl ?_
  refine t_op hT rfl (by rfl) (by first | decide | assumption) (by first | rfl | (rw [hro]; rfl)) (fun _ hR K hK => ?_)
  replace hF := hF.trans hR
  clear hR
  go_simp
  try (unfold stored; go_simp)
  try go_ints
  refine hK _ _ y (by rw [listed_nil (by simp [go_sem, *])]; exact hT.idle _ _) ?_
  clear hK K
  try walk_nrm
  repeat (first | refine t_seq hT ?_ | refine t_block hT ?_ | refine t_skip hT ?_ | refine t_inBlock hT ?_ | refine t_rend hT ?_ | refine t_exit hT rfl ?_)
  refine t_region hT [0, 1, 2] rfl ?_
  refine t_op hT rfl (by rfl) (by first | decide | assumption) (by first | rfl | (rw [hro]; rfl)) (fun _ hR K hK => ?_)
  replace hF := hF.trans hR
  clear hR
  go_simp
  try (unfold stored; go_simp)
  try go_ints
  refine hK _ _ y (by rw [listed_nil (by simp [go_sem, *])]; exact hT.idle _ _) ?_
  clear hK K
  try walk_nrm
  refine t_call hT rfl (by rfl) (by first | decide | assumption) (by first | rfl | (rw [hro]; rfl)) rfl Try.func56 (by rfl) rfl (by walk_nrm; exact ok_g hT _ _ _ (rdA_rely hS hF hR) hS hn) ?_
  rintro _ _ _ ⟨rfl, rfl, hG⟩
  replace hF := hF.trans hG
  clear hG
  try walk_nrm
  refine t_op hT rfl (by rfl) (by first | decide | assumption) (by first | rfl | (rw [hro]; rfl)) (fun _ hR K hK => ?_)
  replace hF := hF.trans hR
  clear hR
  go_simp
  try (unfold stored; go_simp)
  try go_ints
  refine hK _ _ y (by rw [listed_nil (by simp [go_sem, *])]; exact hT.idle _ _) ?_
  clear hK K
  try walk_nrm
  repeat (first | refine t_seq hT ?_ | refine t_block hT ?_ | refine t_skip hT ?_ | refine t_inBlock hT ?_ | refine t_rend hT ?_ | refine t_exit hT rfl ?_)
  refine t_ret hT rfl rfl rfl Try.func40 (resultsC_tmp (by rfl) _) (hc _ _ _ ⟨rfl, rfl, hF⟩)

set_option maxHeartbeats 1000000 in
theorem equal_g (hT : Clo Try.prog main (RG ty Wg S) (DG main Wg S) T) (A B : Option Addr) (c d : Nat) (xs ys : List Int) (hR : RdA w A xs) (hS : Sees y S A) (hR2 : RdA w B ys) (hS2 : Sees y S B) (hn : xs.length ≤ 1048577) (hm : ys.length ≤ 1048577) :
    CallsT Try.prog T 43 #[.slice A xs.length c, .slice B ys.length d] y w fun v y' w' => v = .bool (decide (xs = ys)) ∧ y = y' ∧ RG ty Wg S y w w' := by
  refine callsT_of Try.func43 rfl fun fr cs hc => ?_
  simp only [Try.ntmps43, List.size_toArray, List.length_cons, List.length_nil, Nat.reduceAdd, Nat.reduceSub, Array.replicate_succ, Array.replicate_zero, List.push_toArray, List.append_toArray, List.nil_append, List.cons_append]
  have hF : RG ty Wg S y w w := RM.refl w
  by_cases hl : xs.length = ys.length
  · have hl' : ((xs.length : Int) != (ys.length : Int)) = false := by simp [hl]
    have HL := hid hl
    clear hl
    repeat (first | refine t_seq hT ?_ | refine t_block hT ?_ | refine t_skip hT ?_ | refine t_inBlock hT ?_ | refine t_rend hT ?_ | refine t_exit hT rfl ?_)
    refine t_region hT [0] rfl ?_
    refine t_op hT rfl (by rfl) (by first | decide | assumption) (by first | rfl | (rw [hro]; rfl)) (fun _ hR K hK => ?_)
    replace hF := hF.trans hR
    clear hR
    go_simp
    try (unfold stored; go_simp)
    try go_ints
    refine hK _ _ y (by rw [listed_nil (by simp [go_sem, *])]; exact hT.idle _ _) ?_
    clear hK K
    try walk_nrm
    repeat (first | refine t_seq hT ?_ | refine t_block hT ?_ | refine t_skip hT ?_ | refine t_inBlock hT ?_ | refine t_rend hT ?_ | refine t_exit hT rfl ?_)
    refine t_region hT [0, 1, 2, 3, 4] rfl ?_
    refine t_op hT rfl (by rfl) (by first | decide | assumption) (by first | rfl | (rw [hro]; rfl)) (fun _ hR K hK => ?_)
    replace hF := hF.trans hR
    clear hR
    go_simp
    try (unfold stored; go_simp)
    try go_ints
    refine hK _ _ y (by rw [listed_nil (by simp [go_sem, *])]; exact hT.idle _ _) ?_
    clear hK K
    try walk_nrm
    refine t_op hT rfl (by rfl) (by first | decide | assumption) (by first | rfl | (rw [hro]; rfl)) (fun _ hR K hK => ?_)
    replace hF := hF.trans hR
    clear hR
    go_simp
    try (unfold stored; go_simp)
    try go_ints
    refine hK _ _ y (by rw [listed_nil (by simp [go_sem, *])]; exact hT.idle _ _) ?_
    clear hK K
    try walk_nrm
    refine t_op hT rfl (by rfl) (by first | decide | assumption) (by first | rfl | (rw [hro]; rfl)) (fun _ hR K hK => ?_)
    replace hF := hF.trans hR
    clear hR
    go_simp
    try (unfold stored; go_simp)
    try go_ints
    refine hK _ _ y (by rw [listed_nil (by simp [go_sem, *])]; exact hT.idle _ _) ?_
    clear hK K
    try walk_nrm
    refine t_op hT rfl (by rfl) (by first | decide | assumption) (by first | rfl | (rw [hro]; rfl)) (fun _ hR K hK => ?_)
    replace hF := hF.trans hR
    clear hR
    go_simp
    try (unfold stored; go_simp)
    try go_ints
    refine hK _ _ y (by rw [listed_nil (by simp [go_sem, *])]; exact hT.idle _ _) ?_
    clear hK K
    try walk_nrm
    refine t_op hT rfl (by rfl) (by first | decide | assumption) (by first | rfl | (rw [hro]; rfl)) (fun _ hR K hK => ?_)
    replace hF := hF.trans hR
    clear hR
    go_simp
    try (unfold stored; go_simp)
    try go_ints
    refine hK _ _ y (by rw [listed_nil (by simp [go_sem, *])]; exact hT.idle _ _) ?_
    clear hK K
    try walk_nrm
    repeat (first | refine t_seq hT ?_ | refine t_block hT ?_ | refine t_skip hT ?_ | refine t_inBlock hT ?_ | refine t_rend hT ?_ | refine t_exit hT rfl ?_)
    refine t_cond hT (t := _) rfl ?_
    simp only [if_true, if_false, reduceIte, Bool.false_eq_true, *]
    repeat (first | refine t_seq hT ?_ | refine t_block hT ?_ | refine t_skip hT ?_ | refine t_inBlock hT ?_ | refine t_rend hT ?_ | refine t_exit hT rfl ?_)
    refine t_region hT [0, 1, 2] rfl ?_
    refine t_op hT rfl (by rfl) (by first | decide | assumption) (by first | rfl | (rw [hro]; rfl)) (fun _ hR K hK => ?_)
    replace hF := hF.trans hR
    clear hR
    go_simp
    try (unfold stored; go_simp)
    try go_ints
    refine hK _ _ y (by rw [listed_nil (by simp [go_sem, *])]; exact hT.idle _ _) ?_
    clear hK K
    try walk_nrm
    refine t_op hT rfl (by rfl) (by first | decide | assumption) (by first | rfl | (rw [hro]; rfl)) (fun _ hR K hK => ?_)
    replace hF := hF.trans hR
    clear hR
    go_simp
    try (unfold stored; go_simp)
    try go_ints
    refine hK _ _ y (by rw [listed_nil (by simp [go_sem, *])]; exact hT.idle _ _) ?_
    clear hK K
    try walk_nrm
    refine t_op hT rfl (by rfl) (by first | decide | assumption) (by first | rfl | (rw [hro]; rfl)) (fun _ hR K hK => ?_)
    replace hF := hF.trans hR
    clear hR
    go_simp
    try (unfold stored; go_simp)
    try go_ints
    refine hK _ _ y (by rw [listed_nil (by simp [go_sem, *])]; exact hT.idle _ _) ?_
    clear hK K
    try walk_nrm
    repeat (first | refine t_seq hT ?_ | refine t_block hT ?_ | refine t_skip hT ?_ | refine t_inBlock hT ?_ | refine t_rend hT ?_ | refine t_exit hT rfl ?_)
    refine t_loop hT (fun a y' w' => a.defers = [] ∧ a.tmps.size = 26 ∧ ∃ k : Nat, k ≤ xs.length ∧ a.tmps.getD 0 undef = .slice A xs.length c ∧ a.tmps.getD 1 undef = .slice B ys.length d ∧ a.tmps.getD 12 undef = .int .i64 xs.length ∧ a.tmps.getD 13 undef = .int .i64 k ∧ xs.take k = ys.take k ∧ y = y' ∧ RG ty Wg S y w w') (fun a _ _ => xs.length - natOf (a.tmps.getD 13 undef)) ⟨rfl, rfl, 0, Nat.zero_le _, rfl, rfl, rfl, rfl, rfl, rfl, hF⟩ ?_
    rintro ⟨tmps, ds⟩ y' w' ⟨rfl, hsz, k, hk, h0, h1, h12, h13, ht, rfl, hF⟩ IH
    obtain ⟨J, rfl⟩ : ∃ J : Nat → Value, tmps = #[J 0, J 1, J 2, J 3, J 4, J 5, J 6, J 7, J 8, J 9, J 10, J 11, J 12, J 13, J 14, J 15, J 16, J 17, J 18, J 19, J 20, J 21, J 22, J 23, J 24, J 25] := ⟨fun i => tmps.getD i undef, (lit tmps).trans (by rw [hsz]; rfl)⟩
    change J 0 = _ at h0
    change J 1 = _ at h1
    change J 12 = _ at h12
    change J 13 = _ at h13
    simp only [h0, h1, h12, h13]
    clear hsz h0 h1 h12
    have hμ : natOf (J 13) = k := by rw [h13]; exact Int.toNat_natCast k
    clear h13
    have HT := hid ht
    clear ht
    by_cases hlt : k < xs.length
    · have hlt2 : k < ys.length := by have := HL.out; omega
      obtain ⟨ad, rfl, hcell⟩ := hR k hlt
      obtain ⟨bd, rfl, hcell2⟩ := hR2 k hlt2
      have hd : decide ((k : Int) < xs.length) = true := by simpa using hlt
      have hwk := hid (show (k : Int) + 1 = ((k + 1 : Nat) : Int) by omega)
      repeat (first | refine t_seq hT ?_ | refine t_block hT ?_ | refine t_skip hT ?_ | refine t_inBlock hT ?_ | refine t_rend hT ?_ | refine t_exit hT rfl ?_)
      refine t_region hT [0] rfl ?_
      refine t_op hT rfl (by rfl) (by first | decide | assumption) (by first | rfl | (rw [hro]; rfl)) (fun _ hR K hK => ?_)
      replace hF := hF.trans hR
      clear hR
      go_simp
      try (unfold stored; go_simp)
      try go_ints
      refine hK _ _ y (by rw [listed_nil (by simp [go_sem, *])]; exact hT.idle _ _) ?_
      clear hK K
      try walk_nrm
      repeat (first | refine t_seq hT ?_ | refine t_block hT ?_ | refine t_skip hT ?_ | refine t_inBlock hT ?_ | refine t_rend hT ?_ | refine t_exit hT rfl ?_)
      refine t_cond hT (t := _) rfl ?_
      simp only [if_true, if_false, reduceIte, Bool.false_eq_true, *]
      repeat (first | refine t_seq hT ?_ | refine t_block hT ?_ | refine t_skip hT ?_ | refine t_inBlock hT ?_ | refine t_rend hT ?_ | refine t_exit hT rfl ?_)
      refine t_region hT [0, 1] rfl ?_
      refine t_op hT rfl (by rfl) (by first | decide | assumption) (by first | rfl | (rw [hro]; rfl)) (fun _ hR K hK => ?_)
      replace hF := hF.trans hR
      clear hR
      go_simp
      try (unfold stored; go_simp)
      try go_ints
      refine hK _ _ y (by rw [listed_nil (by simp [go_sem, *])]; exact hT.idle _ _) ?_
      clear hK K
      try walk_nrm
      refine t_op hT rfl (by rfl) (by first | decide | assumption) (by first | rfl | (rw [hro]; rfl)) (fun _ hR K hK => ?_)
      replace hF := hF.trans hR
      clear hR
      go_simp
      try (unfold stored; go_simp)
      try go_ints
      refine hK _ _ y (by rw [listed_nil (by simp [go_sem, *])]; exact hT.idle _ _) ?_
      clear hK K
      try walk_nrm
      repeat (first | refine t_seq hT ?_ | refine t_block hT ?_ | refine t_skip hT ?_ | refine t_inBlock hT ?_ | refine t_rend hT ?_ | refine t_exit hT rfl ?_)
      refine t_drawR hT (S := RG ty Wg S y w) (fun _ _ h r => h.trans r) (fun _ h => h.trans ⟨fun _ _ => rfl, Nat.le_refl _, id⟩) (by first | kernel_rfl | rfl) (by decide) rfl hF ?_
      refine anyR_take (i := 0) (v := .slice (some ad) xs.length c) rfl (by decide +kernel) (by decide +kernel) (by decide +kernel) (.inl ⟨by rfl, fun _ hw => ⟨run_eq_of (fun K hK => ?_), ?_⟩⟩) ?_
      · skip
        go_simp
        try go_ints
        exact hK
      · skip
        rw [listed_nil (by simp [go_sem, *])]; exact hT.idle _ _
      try walk_nrm
      refine anyR_take (i := 1) (v := .int .i64 k) rfl (by decide +kernel) (by decide +kernel) (by decide +kernel) (.inl ⟨by rfl, fun _ hw => ⟨run_eq_of (fun K hK => ?_), ?_⟩⟩) ?_
      · skip
        go_simp
        try go_ints
        exact hK
      · skip
        rw [listed_nil (by simp [go_sem, *])]; exact hT.idle _ _
      try walk_nrm
      refine anyR_take (i := 2) (v := .pointer (some (ad.add k))) rfl (by decide +kernel) (by decide +kernel) (by decide +kernel) (.inl ⟨by rfl, fun _ hw => ⟨run_eq_of (fun K hK => ?_), ?_⟩⟩) ?_
      · skip
        go_simp
        try go_ints
        exact hK
      · skip
        rw [listed_nil (by simp [go_sem, *])]; exact hT.idle _ _
      try walk_nrm
      refine anyR_take (i := 3) (v := .int .i64 (nth xs k)) rfl (by decide +kernel) (by decide +kernel) (by decide +kernel) (.inl ⟨by rfl, fun _ hw => ⟨run_eq_of (fun K hK => ?_), ?_⟩⟩) ?_
      · have hce := (cell_rely (hS.add k) hw).trans hcell
        go_simp
        try go_ints
        exact hK
      · have hce := (cell_rely (hS.add k) hw).trans hcell
        refine dg_reads ?_
        co_evs (exact evm_read (hS.add k))
      try walk_nrm
      refine anyR_take (i := 4) (v := .slice (some bd) ys.length d) rfl (by decide +kernel) (by decide +kernel) (by decide +kernel) (.inl ⟨by rfl, fun _ hw => ⟨run_eq_of (fun K hK => ?_), ?_⟩⟩) ?_
      · skip
        go_simp
        try go_ints
        exact hK
      · skip
        rw [listed_nil (by simp [go_sem, *])]; exact hT.idle _ _
      try walk_nrm
      refine anyR_take (i := 5) (v := .int .i64 k) rfl (by decide +kernel) (by decide +kernel) (by decide +kernel) (.inl ⟨by rfl, fun _ hw => ⟨run_eq_of (fun K hK => ?_), ?_⟩⟩) ?_
      · skip
        go_simp
        try go_ints
        exact hK
      · skip
        rw [listed_nil (by simp [go_sem, *])]; exact hT.idle _ _
      try walk_nrm
      refine anyR_take (i := 6) (v := .pointer (some (bd.add k))) rfl (by decide +kernel) (by decide +kernel) (by decide +kernel) (.inl ⟨by rfl, fun _ hw => ⟨run_eq_of (fun K hK => ?_), ?_⟩⟩) ?_
      · skip
        go_simp
        try go_ints
        exact hK
      · skip
        rw [listed_nil (by simp [go_sem, *])]; exact hT.idle _ _
      try walk_nrm
      refine anyR_take (i := 7) (v := .int .i64 (nth ys k)) rfl (by decide +kernel) (by decide +kernel) (by decide +kernel) (.inl ⟨by rfl, fun _ hw => ⟨run_eq_of (fun K hK => ?_), ?_⟩⟩) ?_
      · have hce := (cell_rely (hS2.add k) hw).trans hcell2
        go_simp
        try go_ints
        exact hK
      · have hce := (cell_rely (hS2.add k) hw).trans hcell2
        refine dg_reads ?_
        co_evs (exact evm_read (hS2.add k))
      try walk_nrm
      refine anyR_take (i := 8) (v := .bool (nth xs k != nth ys k)) rfl (by decide +kernel) (by decide +kernel) (by decide +kernel) (.inl ⟨by rfl, fun _ hw => ⟨run_eq_of (fun K hK => ?_), ?_⟩⟩) ?_
      · skip
        go_simp
        try go_ints
        exact hK
      · skip
        rw [listed_nil (by simp [go_sem, *])]; exact hT.idle _ _
      try walk_nrm
      refine anyR_done (by first | kernel_rfl | decide +kernel) (fun _ hF => ?_) _
      by_cases he : nth xs k = nth ys k
      · have hne : (nth xs k != nth ys k) = false := by simpa using he
        have HE := hid (eqlen HL.out hlt HT.out he)
        clear he
        repeat (first | refine t_seq hT ?_ | refine t_block hT ?_ | refine t_skip hT ?_ | refine t_inBlock hT ?_ | refine t_rend hT ?_ | refine t_exit hT rfl ?_)
        refine t_cond hT (t := _) rfl ?_
        simp only [if_true, if_false, reduceIte, Bool.false_eq_true, *]
        repeat (first | refine t_seq hT ?_ | refine t_block hT ?_ | refine t_skip hT ?_ | refine t_inBlock hT ?_ | refine t_rend hT ?_ | refine t_exit hT rfl ?_)
        refine t_region hT [0, 1] rfl ?_
        refine t_op hT rfl (by rfl) (by first | decide | assumption) (by first | rfl | (rw [hro]; rfl)) (fun _ hR K hK => ?_)
        replace hF := hF.trans hR
        clear hR
        go_simp
        try (unfold stored; go_simp)
        try go_ints
        refine hK _ _ y (by rw [listed_nil (by simp [go_sem, *])]; exact hT.idle _ _) ?_
        clear hK K
        try walk_nrm
        refine t_op hT rfl (by rfl) (by first | decide | assumption) (by first | rfl | (rw [hro]; rfl)) (fun _ hR K hK => ?_)
        replace hF := hF.trans hR
        clear hR
        go_simp
        try (unfold stored; go_simp)
        try go_ints
        refine hK _ _ y (by rw [listed_nil (by simp [go_sem, *])]; exact hT.idle _ _) ?_
        clear hK K
        try walk_nrm
        repeat (first | refine t_seq hT ?_ | refine t_block hT ?_ | refine t_skip hT ?_ | refine t_inBlock hT ?_ | refine t_rend hT ?_ | refine t_exit hT rfl ?_)
        exact IH _ _ _ ⟨rfl, rfl, k + 1, by omega, rfl, rfl, rfl, congrArg (Value.int .i64) hwk.out, HE.out, rfl, hF⟩ (by show xs.length - natOf (.int .i64 ((k : Int) + 1)) < xs.length - natOf (J 13); rw [hμ, hwk.out]; show xs.length - (((k + 1 : Nat) : Int)).toNat < _; rw [Int.toNat_natCast]; omega)
      · have hne : (nth xs k != nth ys k) = true := by simpa using he
        have HE := hid (neq_nth he)
        clear he
        repeat (first | refine t_seq hT ?_ | refine t_block hT ?_ | refine t_skip hT ?_ | refine t_inBlock hT ?_ | refine t_rend hT ?_ | refine t_exit hT rfl ?_)
        refine t_cond hT (t := _) rfl ?_
        simp only [if_true, if_false, reduceIte, Bool.false_eq_true, *]
        repeat (first | refine t_seq hT ?_ | refine t_block hT ?_ | refine t_skip hT ?_ | refine t_inBlock hT ?_ | refine t_rend hT ?_ | refine t_exit hT rfl ?_)
        refine t_region hT [0] rfl ?_
        refine t_op hT rfl (by rfl) (by first | decide | assumption) (by first | rfl | (rw [hro]; rfl)) (fun _ hR K hK => ?_)
        replace hF := hF.trans hR
        clear hR
        go_simp
        try (unfold stored; go_simp)
        try go_ints
        refine hK _ _ y (by rw [listed_nil (by simp [go_sem, *])]; exact hT.idle _ _) ?_
        clear hK K
        try walk_nrm
        repeat (first | refine t_seq hT ?_ | refine t_block hT ?_ | refine t_skip hT ?_ | refine t_inBlock hT ?_ | refine t_rend hT ?_ | refine t_exit hT rfl ?_)
        refine t_ret hT rfl rfl rfl Try.func43 (resultsC_tmp (by rfl) _) (hc _ _ _ ⟨?_, rfl, hF⟩)
        rw [decide_eq_false HE.out]
        rfl
    · obtain rfl : k = xs.length := by omega
      have hd : decide ((xs.length : Int) < xs.length) = false := by simp
      repeat (first | refine t_seq hT ?_ | refine t_block hT ?_ | refine t_skip hT ?_ | refine t_inBlock hT ?_ | refine t_rend hT ?_ | refine t_exit hT rfl ?_)
      refine t_region hT [0] rfl ?_
      refine t_op hT rfl (by rfl) (by first | decide | assumption) (by first | rfl | (rw [hro]; rfl)) (fun _ hR K hK => ?_)
      replace hF := hF.trans hR
      clear hR
      go_simp
      try (unfold stored; go_simp)
      try go_ints
      refine hK _ _ y (by rw [listed_nil (by simp [go_sem, *])]; exact hT.idle _ _) ?_
      clear hK K
      try walk_nrm
      repeat (first | refine t_seq hT ?_ | refine t_block hT ?_ | refine t_skip hT ?_ | refine t_inBlock hT ?_ | refine t_rend hT ?_ | refine t_exit hT rfl ?_)
      refine t_cond hT (t := _) rfl ?_
      simp only [if_true, if_false, reduceIte, Bool.false_eq_true, *]
      repeat (first | refine t_seq hT ?_ | refine t_block hT ?_ | refine t_skip hT ?_ | refine t_inBlock hT ?_ | refine t_rend hT ?_ | refine t_exit hT rfl ?_)
      refine t_region hT [0] rfl ?_
      refine t_op hT rfl (by rfl) (by first | decide | assumption) (by first | rfl | (rw [hro]; rfl)) (fun _ hR K hK => ?_)
      replace hF := hF.trans hR
      clear hR
      go_simp
      try (unfold stored; go_simp)
      try go_ints
      refine hK _ _ y (by rw [listed_nil (by simp [go_sem, *])]; exact hT.idle _ _) ?_
      clear hK K
      try walk_nrm
      repeat (first | refine t_seq hT ?_ | refine t_block hT ?_ | refine t_skip hT ?_ | refine t_inBlock hT ?_ | refine t_rend hT ?_ | refine t_exit hT rfl ?_)
      refine t_ret hT rfl rfl rfl Try.func43 (resultsC_tmp (by rfl) _) (hc _ _ _ ⟨?_, rfl, hF⟩)
      have := HT.out
      rw [List.take_length, HL.out, List.take_length] at this
      rw [decide_eq_true this]
      rfl
  · have hl' : ((xs.length : Int) != (ys.length : Int)) = true := by simp; omega
    have HL := hid hl
    clear hl
    repeat (first | refine t_seq hT ?_ | refine t_block hT ?_ | refine t_skip hT ?_ | refine t_inBlock hT ?_ | refine t_rend hT ?_ | refine t_exit hT rfl ?_)
    refine t_region hT [0] rfl ?_
    refine t_op hT rfl (by rfl) (by first | decide | assumption) (by first | rfl | (rw [hro]; rfl)) (fun _ hR K hK => ?_)
    replace hF := hF.trans hR
    clear hR
    go_simp
    try (unfold stored; go_simp)
    try go_ints
    refine hK _ _ y (by rw [listed_nil (by simp [go_sem, *])]; exact hT.idle _ _) ?_
    clear hK K
    try walk_nrm
    repeat (first | refine t_seq hT ?_ | refine t_block hT ?_ | refine t_skip hT ?_ | refine t_inBlock hT ?_ | refine t_rend hT ?_ | refine t_exit hT rfl ?_)
    refine t_region hT [0, 1, 2, 3, 4] rfl ?_
    refine t_op hT rfl (by rfl) (by first | decide | assumption) (by first | rfl | (rw [hro]; rfl)) (fun _ hR K hK => ?_)
    replace hF := hF.trans hR
    clear hR
    go_simp
    try (unfold stored; go_simp)
    try go_ints
    refine hK _ _ y (by rw [listed_nil (by simp [go_sem, *])]; exact hT.idle _ _) ?_
    clear hK K
    try walk_nrm
    refine t_op hT rfl (by rfl) (by first | decide | assumption) (by first | rfl | (rw [hro]; rfl)) (fun _ hR K hK => ?_)
    replace hF := hF.trans hR
    clear hR
    go_simp
    try (unfold stored; go_simp)
    try go_ints
    refine hK _ _ y (by rw [listed_nil (by simp [go_sem, *])]; exact hT.idle _ _) ?_
    clear hK K
    try walk_nrm
    refine t_op hT rfl (by rfl) (by first | decide | assumption) (by first | rfl | (rw [hro]; rfl)) (fun _ hR K hK => ?_)
    replace hF := hF.trans hR
    clear hR
    go_simp
    try (unfold stored; go_simp)
    try go_ints
    refine hK _ _ y (by rw [listed_nil (by simp [go_sem, *])]; exact hT.idle _ _) ?_
    clear hK K
    try walk_nrm
    refine t_op hT rfl (by rfl) (by first | decide | assumption) (by first | rfl | (rw [hro]; rfl)) (fun _ hR K hK => ?_)
    replace hF := hF.trans hR
    clear hR
    go_simp
    try (unfold stored; go_simp)
    try go_ints
    refine hK _ _ y (by rw [listed_nil (by simp [go_sem, *])]; exact hT.idle _ _) ?_
    clear hK K
    try walk_nrm
    refine t_op hT rfl (by rfl) (by first | decide | assumption) (by first | rfl | (rw [hro]; rfl)) (fun _ hR K hK => ?_)
    replace hF := hF.trans hR
    clear hR
    go_simp
    try (unfold stored; go_simp)
    try go_ints
    refine hK _ _ y (by rw [listed_nil (by simp [go_sem, *])]; exact hT.idle _ _) ?_
    clear hK K
    try walk_nrm
    repeat (first | refine t_seq hT ?_ | refine t_block hT ?_ | refine t_skip hT ?_ | refine t_inBlock hT ?_ | refine t_rend hT ?_ | refine t_exit hT rfl ?_)
    refine t_cond hT (t := _) rfl ?_
    simp only [if_true, if_false, reduceIte, Bool.false_eq_true, *]
    repeat (first | refine t_seq hT ?_ | refine t_block hT ?_ | refine t_skip hT ?_ | refine t_inBlock hT ?_ | refine t_rend hT ?_ | refine t_exit hT rfl ?_)
    refine t_region hT [0] rfl ?_
    refine t_op hT rfl (by rfl) (by first | decide | assumption) (by first | rfl | (rw [hro]; rfl)) (fun _ hR K hK => ?_)
    replace hF := hF.trans hR
    clear hR
    go_simp
    try (unfold stored; go_simp)
    try go_ints
    refine hK _ _ y (by rw [listed_nil (by simp [go_sem, *])]; exact hT.idle _ _) ?_
    clear hK K
    try walk_nrm
    repeat (first | refine t_seq hT ?_ | refine t_block hT ?_ | refine t_skip hT ?_ | refine t_inBlock hT ?_ | refine t_rend hT ?_ | refine t_exit hT rfl ?_)
    refine t_ret hT rfl rfl rfl Try.func43 (resultsC_tmp (by rfl) _) (hc _ _ _ ⟨?_, rfl, hF⟩)
    rw [decide_eq_false (fun e => HL.out (by rw [e]))]
    rfl
end

end Go.Proofs.Ytkbfcaaihellfaa
