/- Steps on the way to the law; each part says what it proves. -/
import Derived.Test.YtkbfcaaihellfaaU29
import Derived.Test.YtkbfcaaihellfaaU26
import Derived.Test.YtkbfcaaihellfaaU30

set_option linter.unusedSimpArgs false

/- The law FnTurnsWith: its run, on every schedule. -/
namespace Go.Proofs.Ytkbfcaaihellfaa
open Go.Conc Go.ConcN Go.ConcN.Gen Go.RowKit Go.Conc.Lib Go.ConcR.Gen
open Go.ConcR (KK wgBlock WgAt stA smA rd wr mk Payload Aside2 DC0)
set_option linter.unusedVariables false
set_option linter.unusedSectionVars false

theorem turnsV_le {f : List Int} (h : turnedB f = true) : turnsV f ≤ 5040 := by
  obtain ⟨h1, h2⟩ := turns_div h
  have h7 : f.length ≤ 7 := (turnedB_iff.1 h).1.1.2
  have h3 : ∀ n, n ≤ 7 → 0 < facZ n ∧ facZ n ≤ 5040 := by decide
  obtain ⟨h4, h5⟩ := h3 _ h7
  have h6 : turnsV f ∣ facZ f.length := Int.dvd_of_tmod_eq_zero h2
  exact Int.le_trans (Int.le_of_dvd h4 h6) h5
theorem facZ_le : ∀ n, n ≤ 7 → 0 < facZ n ∧ facZ n ≤ 5040 := by decide
theorem facS (k : Nat) : facZ (k + 2) = facZ (k + 1) * ((k : Int) + 2) := by
  show facZ (k + 1) * (((k + 1 : Nat) : Int) + 1) = _
  congr 1
section
variable {a : Option Addr} {len cap : Nat} {zs : List Int} {w : World}
set_option maxHeartbeats 8000000 in
theorem FnTurnsWith_la (h : RowIn .u8 w a len cap zs) : LA Try.prog (fun _ => False) (fun v w' => v = .bool true ∧ Below w.heap.size w w') () (G (Frame.enter Try.prog 8 #[.slice a len cap] .normal) []) w := by
  have hcap := h.cap
  unfold maxLen at hcap
  obtain ⟨Post, hPost⟩ : ∃ Post : Value → World → Prop, Post = fun v w' => v = .bool true ∧ Below w.heap.size w w' := ⟨_, rfl⟩
  have done := hid (show ∀ w', Below w.heap.size w w' → Post (.bool true) w' from fun w' hb => by rw [hPost]; exact ⟨rfl, hb⟩)
  rw [← hPost]
  clear hPost
  rw [enter_atR _ Try.func8 rfl]
  have hk : (base 8).kind ≠ .early := base_kind _
  have hro : (base 8).roundOf = none := rfl
  have hret := hid (fun (Sb : Nat → Prop) (v' : World) (a : Act) (k : List Item) (w' : World) (hd : a.defers = []) (hv : a.tmps.getD 2 undef = .bool true) (hi : Inv Sb w v' w') => la_ret (Sb := Sb) (Post := Post) (k := k) hd Try.func8 rfl (by kernel_rfl) hv (fun d => done.out _ (hi.at d).below))
  have hT := clo_la (P := Try.prog) (Sb := fun _ => False) (Post := Post)
  have hi0 := Inv.start w
  have hAW := hid (fun (v w1 : World) (A : Option Addr) (c : Nat) (xs : List Int) (fr : Frame) (cs : List Frame) (hi : Inv (fun _ => False) w v w1) => allWith_i (Post := Post) (A := A) (c := c) (xs := xs) (fr := fr) (cs := cs) hi)
  have CT := hid (fun (v w : World) (A : Option Addr) (c : Nat) (xs : List Int) (hp : PR (fun _ => False) v w) => turnsWith_la (Post := Post) (A := A) (c := c) (xs := xs) hp)
  have CS := hid (fun (v w : World) (A : Option Addr) (c : Nat) (xs : List Int) (hp : PR (fun _ => False) v w) => sTurnsWith_la (Post := Post) (A := A) (c := c) (xs := xs) hp)
  have CL := hid (fun (v w : World) (hp : PR (fun _ => False) v w) => alive_la (Post := Post) hp)
  have CD := hid (fun (hp : PR (fun _ => False) w w) => drawTurnsWith_la (Post := Post) hp h)
  have hret0 := hid (hret.out (fun _ => False))
  unfold CLA at CT CS CL CD
  generalize hT' : LA Try.prog (fun _ => False) Post = T at hT hret0 hAW CT CS CL CD ⊢
  simp only [Try.ntmps8, List.size_toArray, List.length_cons, List.length_nil, Nat.reduceAdd, Nat.reduceSub, Array.replicate_succ, Array.replicate_zero, List.push_toArray, List.append_toArray, List.nil_append, List.cons_append]
  by_cases hbig : 1048576 < len
  · have hd : decide ((1048576 : Int) < (len : Int)) = true := by simp; omega
    repeat (first | refine t_seq hT ?_ | refine t_block hT ?_ | refine t_skip hT ?_ | refine t_inBlock hT ?_ | refine t_rend hT ?_ | refine t_exit hT rfl ?_)
    refine t_region hT [0] rfl ?_
    refine t_op hT rfl (by rfl) (by first | decide | assumption) (by first | rfl | (rw [hro]; rfl)) (fun w₁ hR K hK => ?_)
    obtain ⟨d, rfl⟩ := hR
    go_simp
    try (unfold stored; go_simp)
    try go_ints
    refine hK _ _ () (da_nil (listed_nil (by simp [go_sem, *])) (Nat.le_refl _)) ?_
    clear hK K
    try simp only [at_alloc, at_set, at_heap]
    refine la_strip hT ?_
    try walk_nrm
    repeat (first | refine t_seq hT ?_ | refine t_block hT ?_ | refine t_skip hT ?_ | refine t_inBlock hT ?_ | refine t_rend hT ?_ | refine t_exit hT rfl ?_)
    refine t_region hT [0, 1, 2] rfl ?_
    refine t_op hT rfl (by rfl) (by first | decide | assumption) (by first | rfl | (rw [hro]; rfl)) (fun w₁ hR K hK => ?_)
    obtain ⟨d, rfl⟩ := hR
    go_simp
    try (unfold stored; go_simp)
    try go_ints
    refine hK _ _ () (da_nil (listed_nil (by simp [go_sem, *])) (Nat.le_refl _)) ?_
    clear hK K
    try simp only [at_alloc, at_set, at_heap]
    refine la_strip hT ?_
    try walk_nrm
    refine t_op hT rfl (by rfl) (by first | decide | assumption) (by first | rfl | (rw [hro]; rfl)) (fun w₁ hR K hK => ?_)
    obtain ⟨d, rfl⟩ := hR
    go_simp
    try (unfold stored; go_simp)
    try go_ints
    refine hK _ _ () (da_nil (listed_nil (by simp [go_sem, *])) (Nat.le_refl _)) ?_
    clear hK K
    try simp only [at_alloc, at_set, at_heap]
    refine la_strip hT ?_
    try walk_nrm
    refine t_op hT rfl (by rfl) (by first | decide | assumption) (by first | rfl | (rw [hro]; rfl)) (fun w₁ hR K hK => ?_)
    obtain ⟨d, rfl⟩ := hR
    go_simp
    try (unfold stored; go_simp)
    try go_ints
    refine hK _ _ () (da_nil (listed_nil (by simp [go_sem, *])) (Nat.le_refl _)) ?_
    clear hK K
    try simp only [at_alloc, at_set, at_heap]
    refine la_strip hT ?_
    try walk_nrm
    repeat (first | refine t_seq hT ?_ | refine t_block hT ?_ | refine t_skip hT ?_ | refine t_inBlock hT ?_ | refine t_rend hT ?_ | refine t_exit hT rfl ?_)
    refine t_cond hT (t := _) rfl ?_
    simp only [if_true, if_false, reduceIte, Bool.false_eq_true, *]
    repeat (first | refine t_seq hT ?_ | refine t_block hT ?_ | refine t_skip hT ?_ | refine t_inBlock hT ?_ | refine t_rend hT ?_ | refine t_exit hT rfl ?_)
    refine t_region hT [0] rfl ?_
    refine t_op hT rfl (by rfl) (by first | decide | assumption) (by first | rfl | (rw [hro]; rfl)) (fun w₁ hR K hK => ?_)
    obtain ⟨d, rfl⟩ := hR
    go_simp
    try (unfold stored; go_simp)
    try go_ints
    refine hK _ _ () (da_nil (listed_nil (by simp [go_sem, *])) (Nat.le_refl _)) ?_
    clear hK K
    try simp only [at_alloc, at_set, at_heap]
    refine la_strip hT ?_
    try walk_nrm
    refine t_rend hT ?_
    exact hret0.out _ _ _ _ rfl rfl hi0
  · have hd : decide ((1048576 : Int) < (len : Int)) = false := by simp; omega
    repeat (first | refine t_seq hT ?_ | refine t_block hT ?_ | refine t_skip hT ?_ | refine t_inBlock hT ?_ | refine t_rend hT ?_ | refine t_exit hT rfl ?_)
    refine t_region hT [0] rfl ?_
    refine t_op hT rfl (by rfl) (by first | decide | assumption) (by first | rfl | (rw [hro]; rfl)) (fun w₁ hR K hK => ?_)
    obtain ⟨d, rfl⟩ := hR
    go_simp
    try (unfold stored; go_simp)
    try go_ints
    refine hK _ _ () (da_nil (listed_nil (by simp [go_sem, *])) (Nat.le_refl _)) ?_
    clear hK K
    try simp only [at_alloc, at_set, at_heap]
    refine la_strip hT ?_
    try walk_nrm
    repeat (first | refine t_seq hT ?_ | refine t_block hT ?_ | refine t_skip hT ?_ | refine t_inBlock hT ?_ | refine t_rend hT ?_ | refine t_exit hT rfl ?_)
    refine t_region hT [0, 1, 2] rfl ?_
    refine t_op hT rfl (by rfl) (by first | decide | assumption) (by first | rfl | (rw [hro]; rfl)) (fun w₁ hR K hK => ?_)
    obtain ⟨d, rfl⟩ := hR
    go_simp
    try (unfold stored; go_simp)
    try go_ints
    refine hK _ _ () (da_nil (listed_nil (by simp [go_sem, *])) (Nat.le_refl _)) ?_
    clear hK K
    try simp only [at_alloc, at_set, at_heap]
    refine la_strip hT ?_
    try walk_nrm
    refine t_op hT rfl (by rfl) (by first | decide | assumption) (by first | rfl | (rw [hro]; rfl)) (fun w₁ hR K hK => ?_)
    obtain ⟨d, rfl⟩ := hR
    go_simp
    try (unfold stored; go_simp)
    try go_ints
    refine hK _ _ () (da_nil (listed_nil (by simp [go_sem, *])) (Nat.le_refl _)) ?_
    clear hK K
    try simp only [at_alloc, at_set, at_heap]
    refine la_strip hT ?_
    try walk_nrm
    refine t_op hT rfl (by rfl) (by first | decide | assumption) (by first | rfl | (rw [hro]; rfl)) (fun w₁ hR K hK => ?_)
    obtain ⟨d, rfl⟩ := hR
    go_simp
    try (unfold stored; go_simp)
    try go_ints
    refine hK _ _ () (da_nil (listed_nil (by simp [go_sem, *])) (Nat.le_refl _)) ?_
    clear hK K
    try simp only [at_alloc, at_set, at_heap]
    refine la_strip hT ?_
    try walk_nrm
    repeat (first | refine t_seq hT ?_ | refine t_block hT ?_ | refine t_skip hT ?_ | refine t_inBlock hT ?_ | refine t_rend hT ?_ | refine t_exit hT rfl ?_)
    refine t_cond hT (t := _) rfl ?_
    simp only [if_true, if_false, reduceIte, Bool.false_eq_true, *]
    repeat (first | refine t_seq hT ?_ | refine t_block hT ?_ | refine t_skip hT ?_ | refine t_inBlock hT ?_ | refine t_rend hT ?_ | refine t_exit hT rfl ?_)
    refine t_region hT [0, 1, 2] rfl ?_
    refine t_op hT rfl (by rfl) (by first | decide | assumption) (by first | rfl | (rw [hro]; rfl)) (fun w₁ hR K hK => ?_)
    obtain ⟨d, rfl⟩ := hR
    go_simp
    try (unfold stored; go_simp)
    try go_ints
    refine hK _ _ () (da_nil (listed_nil (by simp [go_sem, *])) (Nat.le_refl _)) ?_
    clear hK K
    try simp only [at_alloc, at_set, at_heap]
    refine la_strip hT ?_
    try walk_nrm
    refine t_call hT rfl (by rfl) (by first | decide | assumption) (by first | rfl | (rw [hro]; rfl)) rfl Try.func32 (by rfl) rfl (by walk_nrm; exact CD.out hi0.pr (by omega)) ?_
    rintro _ ⟨⟩ W1 ⟨ht, V1, hp, ⟨xs, A, c, hx8, rfl, hA⟩, l⟩
    try walk_nrm
    have hi1 := hi0.ltr l hp ht
    clear ht hp l h CD
    have hx : xs.length ≤ 1048577 := by omega
    refine t_op hT rfl (by rfl) (by first | decide | assumption) (by first | rfl | (rw [hro]; rfl)) (fun w₁ hR K hK => ?_)
    obtain ⟨d, rfl⟩ := hR
    go_simp
    try (unfold stored; go_simp)
    try go_ints
    refine hK _ _ () (da_nil (listed_nil (by simp [go_sem, *])) (Nat.le_refl _)) ?_
    clear hK K
    try simp only [at_alloc, at_set, at_heap]
    refine la_strip hT ?_
    try walk_nrm
    repeat (first | refine t_seq hT ?_ | refine t_block hT ?_ | refine t_skip hT ?_ | refine t_inBlock hT ?_ | refine t_rend hT ?_ | refine t_exit hT rfl ?_)
    refine t_region hT [0, 1, 2] rfl ?_
    refine t_op hT rfl (by rfl) (by first | decide | assumption) (by first | rfl | (rw [hro]; rfl)) (fun w₁ hR K hK => ?_)
    obtain ⟨d, rfl⟩ := hR
    go_simp
    try (unfold stored; go_simp)
    try go_ints
    refine hK _ _ () (da_nil (listed_nil (by simp [go_sem, *])) (Nat.le_refl _)) ?_
    clear hK K
    try simp only [at_alloc, at_set, at_heap]
    refine la_strip hT ?_
    try walk_nrm
    refine t_call hT rfl (by rfl) (by first | decide | assumption) (by first | rfl | (rw [hro]; rfl)) rfl Try.func33 (by rfl) rfl (by walk_nrm; exact CT.out _ _ _ _ _ hi1.pr hA hx) ?_
    rintro _ ⟨⟩ W2 ⟨ht, V2, hp, rfl, l⟩
    try walk_nrm
    have hi2 := hi1.ltr l hp ht
    replace hA := rdA_ltr hi1.pr hA l
    clear ht hp l CT hi1
    refine t_op hT rfl (by rfl) (by first | decide | assumption) (by first | rfl | (rw [hro]; rfl)) (fun w₁ hR K hK => ?_)
    obtain ⟨d, rfl⟩ := hR
    go_simp
    try (unfold stored; go_simp)
    try go_ints
    refine hK _ _ () (da_nil (listed_nil (by simp [go_sem, *])) (Nat.le_refl _)) ?_
    clear hK K
    try simp only [at_alloc, at_set, at_heap]
    refine la_strip hT ?_
    try walk_nrm
    repeat (first | refine t_seq hT ?_ | refine t_block hT ?_ | refine t_skip hT ?_ | refine t_inBlock hT ?_ | refine t_rend hT ?_ | refine t_exit hT rfl ?_)
    refine t_region hT [0, 1, 2, 3] rfl ?_
    refine t_op hT rfl (by rfl) (by first | decide | assumption) (by first | rfl | (rw [hro]; rfl)) (fun w₁ hR K hK => ?_)
    obtain ⟨d, rfl⟩ := hR
    go_simp
    try (unfold stored; go_simp)
    try go_ints
    refine hK _ _ () (da_nil (listed_nil (by simp [go_sem, *])) (Nat.le_refl _)) ?_
    clear hK K
    try simp only [at_alloc, at_set, at_heap]
    refine la_strip hT ?_
    try walk_nrm
    refine t_op hT rfl (by rfl) (by first | decide | assumption) (by first | rfl | (rw [hro]; rfl)) (fun w₁ hR K hK => ?_)
    obtain ⟨d, rfl⟩ := hR
    go_simp
    try (unfold stored; go_simp)
    try go_ints
    refine hK _ _ () (da_nil (listed_nil (by simp [go_sem, *])) (Nat.le_refl _)) ?_
    clear hK K
    try simp only [at_alloc, at_set, at_heap]
    refine la_strip hT ?_
    try walk_nrm
    refine t_call hT rfl (by rfl) (by first | decide | assumption) (by first | rfl | (rw [hro]; rfl)) rfl Try.func34 (by rfl) rfl (by walk_nrm; exact CS.out _ _ _ _ _ hi2.pr hA hx) ?_
    rintro _ ⟨⟩ W3 ⟨ht, V3, hp, rfl, l⟩
    try walk_nrm
    have hi3 := hi2.ltr l hp ht
    replace hA := rdA_ltr hi2.pr hA l
    clear ht hp l CS hi2
    have hne : (turnsV xs != turnsV xs) = false := by simp
    refine t_op hT rfl (by rfl) (by first | decide | assumption) (by first | rfl | (rw [hro]; rfl)) (fun w₁ hR K hK => ?_)
    obtain ⟨d, rfl⟩ := hR
    go_simp
    try (unfold stored; go_simp)
    try go_ints
    refine hK _ _ () (da_nil (listed_nil (by simp [go_sem, *])) (Nat.le_refl _)) ?_
    clear hK K
    try simp only [at_alloc, at_set, at_heap]
    refine la_strip hT ?_
    try walk_nrm
    repeat (first | refine t_seq hT ?_ | refine t_block hT ?_ | refine t_skip hT ?_ | refine t_inBlock hT ?_ | refine t_rend hT ?_ | refine t_exit hT rfl ?_)
    refine t_cond hT (t := _) rfl ?_
    simp only [if_true, if_false, reduceIte, Bool.false_eq_true, *]
    repeat (first | refine t_seq hT ?_ | refine t_block hT ?_ | refine t_skip hT ?_ | refine t_inBlock hT ?_ | refine t_rend hT ?_ | refine t_exit hT rfl ?_)
    refine t_region hT [0, 1] rfl ?_
    refine t_op hT rfl (by rfl) (by first | decide | assumption) (by first | rfl | (rw [hro]; rfl)) (fun w₁ hR K hK => ?_)
    obtain ⟨d, rfl⟩ := hR
    go_simp
    try (unfold stored; go_simp)
    try go_ints
    refine hK _ _ () (da_nil (listed_nil (by simp [go_sem, *])) (Nat.le_refl _)) ?_
    clear hK K
    try simp only [at_alloc, at_set, at_heap]
    refine la_strip hT ?_
    try walk_nrm
    cases ht : turnedB xs with
    | false =>
      have hv : turnsV xs = -1 := by unfold turnsV; rw [if_neg (by simp [ht])]
      rw [hv]
      refine t_op hT rfl (by rfl) (by first | decide | assumption) (by first | rfl | (rw [hro]; rfl)) (fun w₁ hR K hK => ?_)
      obtain ⟨d, rfl⟩ := hR
      go_simp
      try (unfold stored; go_simp)
      try go_ints
      refine hK _ _ () (da_nil (listed_nil (by simp [go_sem, *])) (Nat.le_refl _)) ?_
      clear hK K
      try simp only [at_alloc, at_set, at_heap]
      refine la_strip hT ?_
      try walk_nrm
      repeat (first | refine t_seq hT ?_ | refine t_block hT ?_ | refine t_skip hT ?_ | refine t_inBlock hT ?_ | refine t_rend hT ?_ | refine t_exit hT rfl ?_)
      refine t_cond hT (t := _) rfl ?_
      simp only [if_true, if_false, reduceIte, Bool.false_eq_true, *]
      repeat (first | refine t_seq hT ?_ | refine t_block hT ?_ | refine t_skip hT ?_ | refine t_inBlock hT ?_ | refine t_rend hT ?_ | refine t_exit hT rfl ?_)
      refine t_region hT [0, 1, 2, 3, 4, 5] rfl ?_
      refine t_op hT rfl (by rfl) (by first | decide | assumption) (by first | rfl | (rw [hro]; rfl)) (fun w₁ hR K hK => ?_)
      obtain ⟨d, rfl⟩ := hR
      go_simp
      try (unfold stored; go_simp)
      try go_ints
      refine hK _ _ () (da_nil (listed_nil (by simp [go_sem, *])) (Nat.le_refl _)) ?_
      clear hK K
      try simp only [at_alloc, at_set, at_heap]
      refine la_strip hT ?_
      try walk_nrm
      refine t_op hT rfl (by rfl) (by first | decide | assumption) (by first | rfl | (rw [hro]; rfl)) (fun w₁ hR K hK => ?_)
      obtain ⟨d, rfl⟩ := hR
      go_simp
      try (unfold stored; go_simp)
      try go_ints
      refine hK _ _ () (da_nil (listed_nil (by simp [go_sem, *])) (Nat.le_refl _)) ?_
      clear hK K
      try simp only [at_alloc, at_set, at_heap]
      refine la_strip hT ?_
      try walk_nrm
      refine t_op hT rfl (by rfl) (by first | decide | assumption) (by first | rfl | (rw [hro]; rfl)) (fun w₁ hR K hK => ?_)
      obtain ⟨d, rfl⟩ := hR
      go_simp
      try (unfold stored; go_simp)
      try go_ints
      refine hK _ _ () (da_nil (listed_nil (by simp [go_sem, *])) (Nat.le_refl _)) ?_
      clear hK K
      try simp only [at_alloc, at_set, at_heap]
      refine la_strip hT ?_
      try walk_nrm
      refine t_call hT rfl (by rfl) (by first | decide | assumption) (by first | rfl | (rw [hro]; rfl)) rfl Try.func21 (by rfl) rfl (by walk_nrm; exact CL.out _ _ hi3.pr) ?_
      rintro _ ⟨⟩ W4 ⟨ht4, V4, hp, rfl, l⟩
      try walk_nrm
      have hi4 := hi3.ltr l hp ht4
      refine t_op hT rfl (by rfl) (by first | decide | assumption) (by first | rfl | (rw [hro]; rfl)) (fun w₁ hR K hK => ?_)
      obtain ⟨d, rfl⟩ := hR
      go_simp
      try (unfold stored; go_simp)
      try go_ints
      refine hK _ _ () (da_nil (listed_nil (by simp [go_sem, *])) (Nat.le_refl _)) ?_
      clear hK K
      try simp only [at_alloc, at_set, at_heap]
      refine la_strip hT ?_
      try walk_nrm
      refine t_op hT rfl (by rfl) (by first | decide | assumption) (by first | rfl | (rw [hro]; rfl)) (fun w₁ hR K hK => ?_)
      obtain ⟨d, rfl⟩ := hR
      go_simp
      try (unfold stored; go_simp)
      try go_ints
      refine hK _ _ () (da_nil (listed_nil (by simp [go_sem, *])) (Nat.le_refl _)) ?_
      clear hK K
      try simp only [at_alloc, at_set, at_heap]
      refine la_strip hT ?_
      try walk_nrm
      refine t_rend hT ?_
      exact hret0.out _ _ _ _ rfl rfl hi4
    | true =>
      have hpos := hid (turns_div ht)
      have h7 : xs.length ≤ 7 := (turnedB_iff.1 ht).1.1.2
      have hd0 : decide (turnsV xs < 0) = false := by have := hpos.out.1; simp; omega
      refine t_op hT rfl (by rfl) (by first | decide | assumption) (by first | rfl | (rw [hro]; rfl)) (fun w₁ hR K hK => ?_)
      obtain ⟨d, rfl⟩ := hR
      go_simp
      try (unfold stored; go_simp)
      try go_ints
      refine hK _ _ () (da_nil (listed_nil (by simp [go_sem, *])) (Nat.le_refl _)) ?_
      clear hK K
      try simp only [at_alloc, at_set, at_heap]
      refine la_strip hT ?_
      try walk_nrm
      repeat (first | refine t_seq hT ?_ | refine t_block hT ?_ | refine t_skip hT ?_ | refine t_inBlock hT ?_ | refine t_rend hT ?_ | refine t_exit hT rfl ?_)
      refine t_cond hT (t := _) rfl ?_
      simp only [if_true, if_false, reduceIte, Bool.false_eq_true, *]
      repeat (first | refine t_seq hT ?_ | refine t_block hT ?_ | refine t_skip hT ?_ | refine t_inBlock hT ?_ | refine t_rend hT ?_ | refine t_exit hT rfl ?_)
      refine t_region hT [0] rfl ?_
      refine t_op hT rfl (by rfl) (by first | decide | assumption) (by first | rfl | (rw [hro]; rfl)) (fun w₁ hR K hK => ?_)
      obtain ⟨d, rfl⟩ := hR
      go_simp
      try (unfold stored; go_simp)
      try go_ints
      refine hK _ _ () (da_nil (listed_nil (by simp [go_sem, *])) (Nat.le_refl _)) ?_
      clear hK K
      try simp only [at_alloc, at_set, at_heap]
      refine la_strip hT ?_
      try walk_nrm
      repeat (first | refine t_seq hT ?_ | refine t_block hT ?_ | refine t_skip hT ?_ | refine t_inBlock hT ?_ | refine t_rend hT ?_ | refine t_exit hT rfl ?_)
      refine t_region hT [0] rfl ?_
      refine t_op hT rfl (by rfl) (by first | decide | assumption) (by first | rfl | (rw [hro]; rfl)) (fun w₁ hR K hK => ?_)
      obtain ⟨d, rfl⟩ := hR
      go_simp
      try (unfold stored; go_simp)
      try go_ints
      refine hK _ _ () (da_nil (listed_nil (by simp [go_sem, *])) (Nat.le_refl _)) ?_
      clear hK K
      try simp only [at_alloc, at_set, at_heap]
      refine la_strip hT ?_
      try walk_nrm
      repeat (first | refine t_seq hT ?_ | refine t_block hT ?_ | refine t_skip hT ?_ | refine t_inBlock hT ?_ | refine t_rend hT ?_ | refine t_exit hT rfl ?_)
      have hn1 : 1 ≤ xs.length := (turnedB_iff.1 ht).1.1.1
      have hkeep := hid (fun h4 => many_turns ht h4)
      have hle := hid (turnsV_le ht)
      clear ht hret0 CL
      refine loop_begin hT (m := xs.length) (fun m a' w' => a'.defers = [] ∧ a'.tmps.size = 72 ∧ a'.tmps.getD 3 undef = .slice A xs.length c ∧ a'.tmps.getD 4 undef = .int .i64 (turnsV xs) ∧ w' = W3 ∧ ∃ k : Nat, k + 1 ≤ xs.length ∧ a'.tmps.getD 6 undef = .int .i64 ((k : Int) + 2) ∧ a'.tmps.getD 5 undef = .int .i64 (facZ (k + 1)) ∧ m = xs.length - k) ⟨rfl, rfl, rfl, rfl, rfl, 0, by omega, rfl, rfl, rfl⟩ ?_
      rintro m ⟨tmps, ds⟩ w' ⟨rfl, hsz, h3, h4, rfl, k, hkn, h6, h5, rfl⟩ IH
      obtain ⟨J, rfl⟩ : ∃ J : Nat → Value, tmps = #[J 0, J 1, J 2, J 3, J 4, J 5, J 6, J 7, J 8, J 9, J 10, J 11, J 12, J 13, J 14, J 15, J 16, J 17, J 18, J 19, J 20, J 21, J 22, J 23, J 24, J 25, J 26, J 27, J 28, J 29, J 30, J 31, J 32, J 33, J 34, J 35, J 36, J 37, J 38, J 39, J 40, J 41, J 42, J 43, J 44, J 45, J 46, J 47, J 48, J 49, J 50, J 51, J 52, J 53, J 54, J 55, J 56, J 57, J 58, J 59, J 60, J 61, J 62, J 63, J 64, J 65, J 66, J 67, J 68, J 69, J 70, J 71] := ⟨fun i => tmps.getD i undef, (lit tmps).trans (by rw [hsz]; rfl)⟩
      change J 3 = _ at h3
      change J 4 = _ at h4
      change J 5 = _ at h5
      change J 6 = _ at h6
      simp only [h3, h4, h5, h6]
      clear hsz h3 h4 h5
      by_cases hlt : k + 2 ≤ xs.length
      · have hd : decide ((k : Int) + 2 ≤ (xs.length : Int)) = true := by simp; omega
        have hw := hid (show IntKind.i64.wrap (facZ (k + 1) * ((k : Int) + 2)) = facZ (k + 2) by
          rw [← facS]
          have := facZ_le (k + 2) (by omega)
          exact IntWalk.i64_in _ (by omega))
        have hk3 := hid (show (k : Int) + 2 + 1 = ((k + 1 : Nat) : Int) + 2 by omega)
        repeat (first | refine t_seq hT ?_ | refine t_block hT ?_ | refine t_skip hT ?_ | refine t_inBlock hT ?_ | refine t_rend hT ?_ | refine t_exit hT rfl ?_)
        refine t_region hT [0, 1, 2, 3] rfl ?_
        refine t_op hT rfl (by rfl) (by first | decide | assumption) (by first | rfl | (rw [hro]; rfl)) (fun w₁ hR K hK => ?_)
        obtain ⟨d, rfl⟩ := hR
        go_simp
        try (unfold stored; go_simp)
        try go_ints
        refine hK _ _ () (da_nil (listed_nil (by simp [go_sem, *])) (Nat.le_refl _)) ?_
        clear hK K
        try simp only [at_alloc, at_set, at_heap]
        refine la_strip hT ?_
        try walk_nrm
        refine t_op hT rfl (by rfl) (by first | decide | assumption) (by first | rfl | (rw [hro]; rfl)) (fun w₁ hR K hK => ?_)
        obtain ⟨d, rfl⟩ := hR
        go_simp
        try (unfold stored; go_simp)
        try go_ints
        refine hK _ _ () (da_nil (listed_nil (by simp [go_sem, *])) (Nat.le_refl _)) ?_
        clear hK K
        try simp only [at_alloc, at_set, at_heap]
        refine la_strip hT ?_
        try walk_nrm
        refine t_op hT rfl (by rfl) (by first | decide | assumption) (by first | rfl | (rw [hro]; rfl)) (fun w₁ hR K hK => ?_)
        obtain ⟨d, rfl⟩ := hR
        go_simp
        try (unfold stored; go_simp)
        try go_ints
        refine hK _ _ () (da_nil (listed_nil (by simp [go_sem, *])) (Nat.le_refl _)) ?_
        clear hK K
        try simp only [at_alloc, at_set, at_heap]
        refine la_strip hT ?_
        try walk_nrm
        refine t_op hT rfl (by rfl) (by first | decide | assumption) (by first | rfl | (rw [hro]; rfl)) (fun w₁ hR K hK => ?_)
        obtain ⟨d, rfl⟩ := hR
        go_simp
        try (unfold stored; go_simp)
        try go_ints
        refine hK _ _ () (da_nil (listed_nil (by simp [go_sem, *])) (Nat.le_refl _)) ?_
        clear hK K
        try simp only [at_alloc, at_set, at_heap]
        refine la_strip hT ?_
        try walk_nrm
        repeat (first | refine t_seq hT ?_ | refine t_block hT ?_ | refine t_skip hT ?_ | refine t_inBlock hT ?_ | refine t_rend hT ?_ | refine t_exit hT rfl ?_)
        refine t_cond hT (t := _) rfl ?_
        simp only [if_true, if_false, reduceIte, Bool.false_eq_true, *]
        repeat (first | refine t_seq hT ?_ | refine t_block hT ?_ | refine t_skip hT ?_ | refine t_inBlock hT ?_ | refine t_rend hT ?_ | refine t_exit hT rfl ?_)
        refine t_region hT [0, 1, 2, 3] rfl ?_
        refine t_op hT rfl (by rfl) (by first | decide | assumption) (by first | rfl | (rw [hro]; rfl)) (fun w₁ hR K hK => ?_)
        obtain ⟨d, rfl⟩ := hR
        go_simp
        try (unfold stored; go_simp)
        try go_ints
        refine hK _ _ () (da_nil (listed_nil (by simp [go_sem, *])) (Nat.le_refl _)) ?_
        clear hK K
        try simp only [at_alloc, at_set, at_heap]
        refine la_strip hT ?_
        try walk_nrm
        refine t_op hT rfl (by rfl) (by first | decide | assumption) (by first | rfl | (rw [hro]; rfl)) (fun w₁ hR K hK => ?_)
        obtain ⟨d, rfl⟩ := hR
        go_simp
        try (unfold stored; go_simp)
        try go_ints
        refine hK _ _ () (da_nil (listed_nil (by simp [go_sem, *])) (Nat.le_refl _)) ?_
        clear hK K
        try simp only [at_alloc, at_set, at_heap]
        refine la_strip hT ?_
        try walk_nrm
        refine t_op hT rfl (by rfl) (by first | decide | assumption) (by first | rfl | (rw [hro]; rfl)) (fun w₁ hR K hK => ?_)
        obtain ⟨d, rfl⟩ := hR
        have hwx := hw.out
        go_simp
        try (unfold stored; go_simp)
        try go_ints
        refine hK _ _ () (da_nil (listed_nil (by simp [go_sem, *])) (Nat.le_refl _)) ?_
        clear hK K
        try simp only [at_alloc, at_set, at_heap]
        refine la_strip hT ?_
        try walk_nrm
        refine t_op hT rfl (by rfl) (by first | decide | assumption) (by first | rfl | (rw [hro]; rfl)) (fun w₁ hR K hK => ?_)
        obtain ⟨d, rfl⟩ := hR
        go_simp
        try (unfold stored; go_simp)
        try go_ints
        refine hK _ _ () (da_nil (listed_nil (by simp [go_sem, *])) (Nat.le_refl _)) ?_
        clear hK K
        try simp only [at_alloc, at_set, at_heap]
        refine la_strip hT ?_
        try walk_nrm
        repeat (first | refine t_seq hT ?_ | refine t_block hT ?_ | refine t_skip hT ?_ | refine t_inBlock hT ?_ | refine t_rend hT ?_ | refine t_exit hT rfl ?_)
        refine t_region hT [0, 1, 2] rfl ?_
        refine t_op hT rfl (by rfl) (by first | decide | assumption) (by first | rfl | (rw [hro]; rfl)) (fun w₁ hR K hK => ?_)
        obtain ⟨d, rfl⟩ := hR
        go_simp
        try (unfold stored; go_simp)
        try go_ints
        refine hK _ _ () (da_nil (listed_nil (by simp [go_sem, *])) (Nat.le_refl _)) ?_
        clear hK K
        try simp only [at_alloc, at_set, at_heap]
        refine la_strip hT ?_
        try walk_nrm
        refine t_op hT rfl (by rfl) (by first | decide | assumption) (by first | rfl | (rw [hro]; rfl)) (fun w₁ hR K hK => ?_)
        obtain ⟨d, rfl⟩ := hR
        go_simp
        try (unfold stored; go_simp)
        try go_ints
        refine hK _ _ () (da_nil (listed_nil (by simp [go_sem, *])) (Nat.le_refl _)) ?_
        clear hK K
        try simp only [at_alloc, at_set, at_heap]
        refine la_strip hT ?_
        try walk_nrm
        refine t_op hT rfl (by rfl) (by first | decide | assumption) (by first | rfl | (rw [hro]; rfl)) (fun w₁ hR K hK => ?_)
        obtain ⟨d, rfl⟩ := hR
        go_simp
        try (unfold stored; go_simp)
        try go_ints
        refine hK _ _ () (da_nil (listed_nil (by simp [go_sem, *])) (Nat.le_refl _)) ?_
        clear hK K
        try simp only [at_alloc, at_set, at_heap]
        refine la_strip hT ?_
        try walk_nrm
        repeat (first | refine t_seq hT ?_ | refine t_block hT ?_ | refine t_skip hT ?_ | refine t_inBlock hT ?_ | refine t_rend hT ?_ | refine t_exit hT rfl ?_)
        exact IH _ _ _ (by omega) ⟨rfl, rfl, rfl, rfl, rfl, k + 1, by omega, congrArg (Value.int .i64) hk3.out, rfl, rfl⟩
      · have hd : decide ((k : Int) + 2 ≤ (xs.length : Int)) = false := by simp; omega
        have hkx : k + 1 = xs.length := by omega
        rw [hkx]
        clear IH hkn hlt hkx
        repeat (first | refine t_seq hT ?_ | refine t_block hT ?_ | refine t_skip hT ?_ | refine t_inBlock hT ?_ | refine t_rend hT ?_ | refine t_exit hT rfl ?_)
        refine t_region hT [0, 1, 2, 3] rfl ?_
        refine t_op hT rfl (by rfl) (by first | decide | assumption) (by first | rfl | (rw [hro]; rfl)) (fun w₁ hR K hK => ?_)
        obtain ⟨d, rfl⟩ := hR
        go_simp
        try (unfold stored; go_simp)
        try go_ints
        refine hK _ _ () (da_nil (listed_nil (by simp [go_sem, *])) (Nat.le_refl _)) ?_
        clear hK K
        try simp only [at_alloc, at_set, at_heap]
        refine la_strip hT ?_
        try walk_nrm
        refine t_op hT rfl (by rfl) (by first | decide | assumption) (by first | rfl | (rw [hro]; rfl)) (fun w₁ hR K hK => ?_)
        obtain ⟨d, rfl⟩ := hR
        go_simp
        try (unfold stored; go_simp)
        try go_ints
        refine hK _ _ () (da_nil (listed_nil (by simp [go_sem, *])) (Nat.le_refl _)) ?_
        clear hK K
        try simp only [at_alloc, at_set, at_heap]
        refine la_strip hT ?_
        try walk_nrm
        refine t_op hT rfl (by rfl) (by first | decide | assumption) (by first | rfl | (rw [hro]; rfl)) (fun w₁ hR K hK => ?_)
        obtain ⟨d, rfl⟩ := hR
        go_simp
        try (unfold stored; go_simp)
        try go_ints
        refine hK _ _ () (da_nil (listed_nil (by simp [go_sem, *])) (Nat.le_refl _)) ?_
        clear hK K
        try simp only [at_alloc, at_set, at_heap]
        refine la_strip hT ?_
        try walk_nrm
        refine t_op hT rfl (by rfl) (by first | decide | assumption) (by first | rfl | (rw [hro]; rfl)) (fun w₁ hR K hK => ?_)
        obtain ⟨d, rfl⟩ := hR
        go_simp
        try (unfold stored; go_simp)
        try go_ints
        refine hK _ _ () (da_nil (listed_nil (by simp [go_sem, *])) (Nat.le_refl _)) ?_
        clear hK K
        try simp only [at_alloc, at_set, at_heap]
        refine la_strip hT ?_
        try walk_nrm
        repeat (first | refine t_seq hT ?_ | refine t_block hT ?_ | refine t_skip hT ?_ | refine t_inBlock hT ?_ | refine t_rend hT ?_ | refine t_exit hT rfl ?_)
        refine t_cond hT (t := _) rfl ?_
        simp only [if_true, if_false, reduceIte, Bool.false_eq_true, *]
        repeat (first | refine t_seq hT ?_ | refine t_block hT ?_ | refine t_skip hT ?_ | refine t_inBlock hT ?_ | refine t_rend hT ?_ | refine t_exit hT rfl ?_)
        refine t_region hT [0] rfl ?_
        refine t_op hT rfl (by rfl) (by first | decide | assumption) (by first | rfl | (rw [hro]; rfl)) (fun w₁ hR K hK => ?_)
        obtain ⟨d, rfl⟩ := hR
        go_simp
        try (unfold stored; go_simp)
        try go_ints
        refine hK _ _ () (da_nil (listed_nil (by simp [go_sem, *])) (Nat.le_refl _)) ?_
        clear hK K
        try simp only [at_alloc, at_set, at_heap]
        refine la_strip hT ?_
        try walk_nrm
        repeat (first | refine t_seq hT ?_ | refine t_block hT ?_ | refine t_skip hT ?_ | refine t_inBlock hT ?_ | refine t_rend hT ?_ | refine t_exit hT rfl ?_)
        refine t_region hT [0, 1, 2] rfl ?_
        refine t_op hT rfl (by rfl) (by first | decide | assumption) (by first | rfl | (rw [hro]; rfl)) (fun w₁ hR K hK => ?_)
        obtain ⟨d, rfl⟩ := hR
        go_simp
        try (unfold stored; go_simp)
        try go_ints
        refine hK _ _ () (da_nil (listed_nil (by simp [go_sem, *])) (Nat.le_refl _)) ?_
        clear hK K
        try simp only [at_alloc, at_set, at_heap]
        refine la_strip hT ?_
        try walk_nrm
        refine t_enter hT rfl (by rfl) (by first | decide | assumption) (by first | rfl | (rw [hro]; rfl)) rfl Try.func18 (by rfl) rfl ?_
        walk_nrm
        refine hAW.out _ _ _ _ _ _ _ hi3 hA hx (fun Sb' M V4 W4 ad cp hsub hi4 l4 hG => ?_)
        clear hT hAW hi3 hd hd0 hne
        have hT := clo_la (P := Try.prog) (Sb := Sb') (Post := Post)
        have hret1 := hid (hret.out Sb')
        have CU := hid (fun (v w : World) (A : Option Addr) (c : Nat) (xs : List Int) (hp : PR Sb' v w) => turnedOf_la (Post := Post) (A := A) (c := c) (xs := xs) hp)
        unfold CLA at CU
        have hrow := hid (fun g hg => withV_row (f := xs) (g := g) hg)
        have hLl : (withV xs).length ≤ 1000 := withV_len xs
        have hRR := hG.rd
        clear hG l4
        generalize withV xs = L at *
        generalize LA Try.prog Sb' Post = T2 at hT hret1 CU ⊢
        rw [Frame.finish_atR]
        try walk_nrm
        refine t_op hT rfl (by rfl) (by first | decide | assumption) (by first | rfl | (rw [hro]; rfl)) (fun w₁ hR K hK => ?_)
        obtain ⟨d, rfl⟩ := hR
        go_simp
        try (unfold stored; go_simp)
        try go_ints
        refine hK _ _ () (da_nil (listed_nil (by simp [go_sem, *])) (Nat.le_refl _)) ?_
        clear hK K
        try simp only [at_alloc, at_set, at_heap]
        refine la_strip hT ?_
        try walk_nrm
        repeat (first | refine t_seq hT ?_ | refine t_block hT ?_ | refine t_skip hT ?_ | refine t_inBlock hT ?_ | refine t_rend hT ?_ | refine t_exit hT rfl ?_)
        refine t_region hT [0] rfl ?_
        refine t_op hT rfl (by rfl) (by first | decide | assumption) (by first | rfl | (rw [hro]; rfl)) (fun w₁ hR K hK => ?_)
        obtain ⟨d, rfl⟩ := hR
        go_simp
        try (unfold stored; go_simp)
        try go_ints
        refine hK _ _ () (da_nil (listed_nil (by simp [go_sem, *])) (Nat.le_refl _)) ?_
        clear hK K
        try simp only [at_alloc, at_set, at_heap]
        refine la_strip hT ?_
        try walk_nrm
        repeat (first | refine t_seq hT ?_ | refine t_block hT ?_ | refine t_skip hT ?_ | refine t_inBlock hT ?_ | refine t_rend hT ?_ | refine t_exit hT rfl ?_)
        refine loop_begin hT (m := L.length) (fun m a' w' => a'.defers = [] ∧ a'.tmps.size = 72 ∧ a'.tmps.getD 3 undef = .slice A xs.length c ∧ a'.tmps.getD 4 undef = .int .i64 (turnsV xs) ∧ a'.tmps.getD 5 undef = .int .i64 (facZ xs.length) ∧ a'.tmps.getD 8 undef = .slice ad L.length cp ∧ ∃ k : Nat, k ≤ L.length ∧ a'.tmps.getD 9 undef = .int .i64 (k : Int) ∧ a'.tmps.getD 7 undef = .int .i64 ((manyV (L.take k) : Nat) : Int) ∧ m = L.length - k ∧ ∃ V', Inv Sb' w V' w' ∧ RdRR V' ad L) ⟨rfl, rfl, rfl, rfl, rfl, rfl, 0, Nat.zero_le _, rfl, rfl, rfl, V4, hi4, hRR⟩ ?_
        clear hi4 hRR
        rintro m ⟨tmps, ds⟩ w' ⟨rfl, hsz, h3, h4, h5, h8, k, hkn, h9, h7, rfl, V', hi, hRR⟩ IH
        obtain ⟨J, rfl⟩ : ∃ J : Nat → Value, tmps = #[J 0, J 1, J 2, J 3, J 4, J 5, J 6, J 7, J 8, J 9, J 10, J 11, J 12, J 13, J 14, J 15, J 16, J 17, J 18, J 19, J 20, J 21, J 22, J 23, J 24, J 25, J 26, J 27, J 28, J 29, J 30, J 31, J 32, J 33, J 34, J 35, J 36, J 37, J 38, J 39, J 40, J 41, J 42, J 43, J 44, J 45, J 46, J 47, J 48, J 49, J 50, J 51, J 52, J 53, J 54, J 55, J 56, J 57, J 58, J 59, J 60, J 61, J 62, J 63, J 64, J 65, J 66, J 67, J 68, J 69, J 70, J 71] := ⟨fun i => tmps.getD i undef, (lit tmps).trans (by rw [hsz]; rfl)⟩
        change J 3 = _ at h3
        change J 4 = _ at h4
        change J 5 = _ at h5
        change J 7 = _ at h7
        change J 8 = _ at h8
        change J 9 = _ at h9
        simp only [h3, h4, h5, h7, h8, h9]
        clear hsz h3 h4 h5 h7 h8
        by_cases hlt : k < L.length
        · have hd : decide ((k : Int) < (L.length : Int)) = true := by simp; omega
          obtain ⟨ad', D, d', rfl, hcl, hrd⟩ := hRR k hlt
          obtain ⟨hnS, hcw⟩ := hi.pr.cell_some hcl
          have hbl := cell_lt hcw
          have hk1 := hid (show (k : Int) + 1 = ((k + 1 : Nat) : Int) by omega)
          have hgl := hid (hrow.out _ (glmem hlt))
          repeat (first | refine t_seq hT ?_ | refine t_block hT ?_ | refine t_skip hT ?_ | refine t_inBlock hT ?_ | refine t_rend hT ?_ | refine t_exit hT rfl ?_)
          refine t_region hT [0, 1, 2, 3] rfl ?_
          refine t_op hT rfl (by rfl) (by first | decide | assumption) (by first | rfl | (rw [hro]; rfl)) (fun w₁ hR K hK => ?_)
          obtain ⟨d, rfl⟩ := hR
          go_simp
          try (unfold stored; go_simp)
          try go_ints
          refine hK _ _ () (da_nil (listed_nil (by simp [go_sem, *])) (Nat.le_refl _)) ?_
          clear hK K
          try simp only [at_alloc, at_set, at_heap]
          refine la_strip hT ?_
          try walk_nrm
          refine t_op hT rfl (by rfl) (by first | decide | assumption) (by first | rfl | (rw [hro]; rfl)) (fun w₁ hR K hK => ?_)
          obtain ⟨d, rfl⟩ := hR
          go_simp
          try (unfold stored; go_simp)
          try go_ints
          refine hK _ _ () (da_nil (listed_nil (by simp [go_sem, *])) (Nat.le_refl _)) ?_
          clear hK K
          try simp only [at_alloc, at_set, at_heap]
          refine la_strip hT ?_
          try walk_nrm
          refine t_op hT rfl (by rfl) (by first | decide | assumption) (by first | rfl | (rw [hro]; rfl)) (fun w₁ hR K hK => ?_)
          obtain ⟨d, rfl⟩ := hR
          go_simp
          try (unfold stored; go_simp)
          try go_ints
          refine hK _ _ () (da_nil (listed_nil (by simp [go_sem, *])) (Nat.le_refl _)) ?_
          clear hK K
          try simp only [at_alloc, at_set, at_heap]
          refine la_strip hT ?_
          try walk_nrm
          refine t_op hT rfl (by rfl) (by first | decide | assumption) (by first | rfl | (rw [hro]; rfl)) (fun w₁ hR K hK => ?_)
          obtain ⟨d, rfl⟩ := hR
          go_simp
          try (unfold stored; go_simp)
          try go_ints
          refine hK _ _ () (da_nil (listed_nil (by simp [go_sem, *])) (Nat.le_refl _)) ?_
          clear hK K
          try simp only [at_alloc, at_set, at_heap]
          refine la_strip hT ?_
          try walk_nrm
          repeat (first | refine t_seq hT ?_ | refine t_block hT ?_ | refine t_skip hT ?_ | refine t_inBlock hT ?_ | refine t_rend hT ?_ | refine t_exit hT rfl ?_)
          refine t_cond hT (t := _) rfl ?_
          simp only [if_true, if_false, reduceIte, Bool.false_eq_true, *]
          repeat (first | refine t_seq hT ?_ | refine t_block hT ?_ | refine t_skip hT ?_ | refine t_inBlock hT ?_ | refine t_rend hT ?_ | refine t_exit hT rfl ?_)
          refine t_region hT [0, 1, 2, 3, 4, 5, 6, 7, 8, 9] rfl ?_
          refine t_op hT rfl (by rfl) (by first | decide | assumption) (by first | rfl | (rw [hro]; rfl)) (fun w₁ hR K hK => ?_)
          obtain ⟨d, rfl⟩ := hR
          go_simp
          try (unfold stored; go_simp)
          try go_ints
          refine hK _ _ () (da_nil (listed_nil (by simp [go_sem, *])) (Nat.le_refl _)) ?_
          clear hK K
          try simp only [at_alloc, at_set, at_heap]
          refine la_strip hT ?_
          try walk_nrm
          refine t_op hT rfl (by rfl) (by first | decide | assumption) (by first | rfl | (rw [hro]; rfl)) (fun w₁ hR K hK => ?_)
          obtain ⟨d, rfl⟩ := hR
          go_simp
          try (unfold stored; go_simp)
          try go_ints
          refine hK _ _ () (da_nil (listed_nil (by simp [go_sem, *])) (Nat.le_refl _)) ?_
          clear hK K
          try simp only [at_alloc, at_set, at_heap]
          refine la_strip hT ?_
          try walk_nrm
          refine t_op hT rfl (by rfl) (by first | decide | assumption) (by first | rfl | (rw [hro]; rfl)) (fun w₁ hR K hK => ?_)
          obtain ⟨d, rfl⟩ := hR
          go_simp
          try (unfold stored; go_simp)
          try go_ints
          refine hK _ _ () (da_nil (listed_nil (by simp [go_sem, *])) (Nat.le_refl _)) ?_
          clear hK K
          try simp only [at_alloc, at_set, at_heap]
          refine la_strip hT ?_
          try walk_nrm
          refine t_op hT rfl (by rfl) (by first | decide | assumption) (by first | rfl | (rw [hro]; rfl)) (fun w₁ hR K hK => ?_)
          obtain ⟨d, rfl⟩ := hR
          have hcd : (w'.at d).cell? (ad'.add k) = _ := hcw
          go_simp
          try (unfold stored; go_simp)
          try go_ints
          refine hK _ _ () (⟨Nat.le_refl _, by co_evs (exact evA_cell (by show (ad'.add k).block < w'.heap.size; exact hbl) hnS)⟩) ?_
          clear hK K
          try simp only [at_alloc, at_set, at_heap]
          refine la_strip hT ?_
          try walk_nrm
          clear hcl hcw
          refine t_call hT rfl (by rfl) (by first | decide | assumption) (by first | rfl | (rw [hro]; rfl)) rfl Try.func35 (by rfl) rfl (by walk_nrm; exact CU.out _ _ _ _ _ hi.pr hrd (by have := hgl.out.2.1; have := hgl.out.2.2.1; omega)) ?_
          rintro _ ⟨⟩ W5 ⟨ht5, V5, hp5, ⟨B5, d5, rfl, _⟩, l5⟩
          try walk_nrm
          have hi5 := hi.ltr l5 hp5 ht5
          have hRR5 := hRR.ltr hi.pr l5
          clear hi hRR l5 hp5 ht5 hrd
          have hms := hid (manyS hlt)
          have hml := hid (many_len L k)
          refine t_op hT rfl (by rfl) (by first | decide | assumption) (by first | rfl | (rw [hro]; rfl)) (fun w₁ hR K hK => ?_)
          obtain ⟨d, rfl⟩ := hR
          go_simp
          try (unfold stored; go_simp)
          try go_ints
          refine hK _ _ () (da_nil (listed_nil (by simp [go_sem, *])) (Nat.le_refl _)) ?_
          clear hK K
          try simp only [at_alloc, at_set, at_heap]
          refine la_strip hT ?_
          try walk_nrm
          refine t_op hT rfl (by rfl) (by first | decide | assumption) (by first | rfl | (rw [hro]; rfl)) (fun w₁ hR K hK => ?_)
          obtain ⟨d, rfl⟩ := hR
          go_simp
          try (unfold stored; go_simp)
          try go_ints
          refine hK _ _ () (da_nil (listed_nil (by simp [go_sem, *])) (Nat.le_refl _)) ?_
          clear hK K
          try simp only [at_alloc, at_set, at_heap]
          refine la_strip hT ?_
          try walk_nrm
          refine t_op hT rfl (by rfl) (by first | decide | assumption) (by first | rfl | (rw [hro]; rfl)) (fun w₁ hR K hK => ?_)
          obtain ⟨d, rfl⟩ := hR
          go_simp
          try (unfold stored; go_simp)
          try go_ints
          refine hK _ _ () (da_nil (listed_nil (by simp [go_sem, *])) (Nat.le_refl _)) ?_
          clear hK K
          try simp only [at_alloc, at_set, at_heap]
          refine la_strip hT ?_
          try walk_nrm
          refine t_op hT rfl (by rfl) (by first | decide | assumption) (by first | rfl | (rw [hro]; rfl)) (fun w₁ hR K hK => ?_)
          obtain ⟨d, rfl⟩ := hR
          go_simp
          try (unfold stored; go_simp)
          try go_ints
          refine hK _ _ () (da_nil (listed_nil (by simp [go_sem, *])) (Nat.le_refl _)) ?_
          clear hK K
          try simp only [at_alloc, at_set, at_heap]
          refine la_strip hT ?_
          try walk_nrm
          refine t_op hT rfl (by rfl) (by first | decide | assumption) (by first | rfl | (rw [hro]; rfl)) (fun w₁ hR K hK => ?_)
          obtain ⟨d, rfl⟩ := hR
          go_simp
          try (unfold stored; go_simp)
          try go_ints
          refine hK _ _ () (da_nil (listed_nil (by simp [go_sem, *])) (Nat.le_refl _)) ?_
          clear hK K
          try simp only [at_alloc, at_set, at_heap]
          refine la_strip hT ?_
          try walk_nrm
          cases htb : turnedB (gl L k) with
          | false =>
            have hm1 := hid (show manyV (L.take (k + 1)) = manyV (L.take k) by rw [hms.out, htb]; rfl)
            repeat (first | refine t_seq hT ?_ | refine t_block hT ?_ | refine t_skip hT ?_ | refine t_inBlock hT ?_ | refine t_rend hT ?_ | refine t_exit hT rfl ?_)
            refine t_region hT [0] rfl ?_
            refine t_op hT rfl (by rfl) (by first | decide | assumption) (by first | rfl | (rw [hro]; rfl)) (fun w₁ hR K hK => ?_)
            obtain ⟨d, rfl⟩ := hR
            go_simp
            try (unfold stored; go_simp)
            try go_ints
            refine hK _ _ () (da_nil (listed_nil (by simp [go_sem, *])) (Nat.le_refl _)) ?_
            clear hK K
            try simp only [at_alloc, at_set, at_heap]
            refine la_strip hT ?_
            try walk_nrm
            repeat (first | refine t_seq hT ?_ | refine t_block hT ?_ | refine t_skip hT ?_ | refine t_inBlock hT ?_ | refine t_rend hT ?_ | refine t_exit hT rfl ?_)
            refine t_cond hT (t := _) rfl ?_
            simp only [if_true, if_false, reduceIte, Bool.false_eq_true, *]
            repeat (first | refine t_seq hT ?_ | refine t_block hT ?_ | refine t_skip hT ?_ | refine t_inBlock hT ?_ | refine t_rend hT ?_ | refine t_exit hT rfl ?_)
            refine t_region hT [0, 1, 2] rfl ?_
            refine t_op hT rfl (by rfl) (by first | decide | assumption) (by first | rfl | (rw [hro]; rfl)) (fun w₁ hR K hK => ?_)
            obtain ⟨d, rfl⟩ := hR
            go_simp
            try (unfold stored; go_simp)
            try go_ints
            refine hK _ _ () (da_nil (listed_nil (by simp [go_sem, *])) (Nat.le_refl _)) ?_
            clear hK K
            try simp only [at_alloc, at_set, at_heap]
            refine la_strip hT ?_
            try walk_nrm
            refine t_op hT rfl (by rfl) (by first | decide | assumption) (by first | rfl | (rw [hro]; rfl)) (fun w₁ hR K hK => ?_)
            obtain ⟨d, rfl⟩ := hR
            go_simp
            try (unfold stored; go_simp)
            try go_ints
            refine hK _ _ () (da_nil (listed_nil (by simp [go_sem, *])) (Nat.le_refl _)) ?_
            clear hK K
            try simp only [at_alloc, at_set, at_heap]
            refine la_strip hT ?_
            try walk_nrm
            refine t_op hT rfl (by rfl) (by first | decide | assumption) (by first | rfl | (rw [hro]; rfl)) (fun w₁ hR K hK => ?_)
            obtain ⟨d, rfl⟩ := hR
            go_simp
            try (unfold stored; go_simp)
            try go_ints
            refine hK _ _ () (da_nil (listed_nil (by simp [go_sem, *])) (Nat.le_refl _)) ?_
            clear hK K
            try simp only [at_alloc, at_set, at_heap]
            refine la_strip hT ?_
            try walk_nrm
            repeat (first | refine t_seq hT ?_ | refine t_block hT ?_ | refine t_skip hT ?_ | refine t_inBlock hT ?_ | refine t_rend hT ?_ | refine t_exit hT rfl ?_)
            exact IH _ _ _ (by omega) ⟨rfl, rfl, rfl, rfl, rfl, rfl, k + 1, by omega, congrArg (Value.int .i64) hk1.out, congrArg (fun n : Nat => Value.int .i64 (n : Int)) hm1.out.symm, rfl, V5, hi5, hRR5⟩
          | true =>
            have hm1 := hid (show ((manyV (L.take k) : Nat) : Int) + 1 = ((manyV (L.take (k + 1)) : Nat) : Int) by rw [hms.out, htb]; simp)
            have hmw := hid (show IntKind.i64.wrap (((manyV (L.take k) : Nat) : Int) + 1) = ((manyV (L.take k) : Nat) : Int) + 1 by have := hml.out; exact IntWalk.i64_in _ (by omega))
            repeat (first | refine t_seq hT ?_ | refine t_block hT ?_ | refine t_skip hT ?_ | refine t_inBlock hT ?_ | refine t_rend hT ?_ | refine t_exit hT rfl ?_)
            refine t_region hT [0] rfl ?_
            refine t_op hT rfl (by rfl) (by first | decide | assumption) (by first | rfl | (rw [hro]; rfl)) (fun w₁ hR K hK => ?_)
            obtain ⟨d, rfl⟩ := hR
            go_simp
            try (unfold stored; go_simp)
            try go_ints
            refine hK _ _ () (da_nil (listed_nil (by simp [go_sem, *])) (Nat.le_refl _)) ?_
            clear hK K
            try simp only [at_alloc, at_set, at_heap]
            refine la_strip hT ?_
            try walk_nrm
            repeat (first | refine t_seq hT ?_ | refine t_block hT ?_ | refine t_skip hT ?_ | refine t_inBlock hT ?_ | refine t_rend hT ?_ | refine t_exit hT rfl ?_)
            refine t_cond hT (t := _) rfl ?_
            simp only [if_true, if_false, reduceIte, Bool.false_eq_true, *]
            repeat (first | refine t_seq hT ?_ | refine t_block hT ?_ | refine t_skip hT ?_ | refine t_inBlock hT ?_ | refine t_rend hT ?_ | refine t_exit hT rfl ?_)
            refine t_region hT [0, 1, 2] rfl ?_
            refine t_op hT rfl (by rfl) (by first | decide | assumption) (by first | rfl | (rw [hro]; rfl)) (fun w₁ hR K hK => ?_)
            obtain ⟨d, rfl⟩ := hR
            go_simp
            try (unfold stored; go_simp)
            try go_ints
            refine hK _ _ () (da_nil (listed_nil (by simp [go_sem, *])) (Nat.le_refl _)) ?_
            clear hK K
            try simp only [at_alloc, at_set, at_heap]
            refine la_strip hT ?_
            try walk_nrm
            refine t_op hT rfl (by rfl) (by first | decide | assumption) (by first | rfl | (rw [hro]; rfl)) (fun w₁ hR K hK => ?_)
            obtain ⟨d, rfl⟩ := hR
            have hmx := hmw.out
            go_simp
            try (unfold stored; go_simp)
            try go_ints
            refine hK _ _ () (da_nil (listed_nil (by simp [go_sem, *])) (Nat.le_refl _)) ?_
            clear hK K
            try simp only [at_alloc, at_set, at_heap]
            refine la_strip hT ?_
            try walk_nrm
            refine t_op hT rfl (by rfl) (by first | decide | assumption) (by first | rfl | (rw [hro]; rfl)) (fun w₁ hR K hK => ?_)
            obtain ⟨d, rfl⟩ := hR
            go_simp
            try (unfold stored; go_simp)
            try go_ints
            refine hK _ _ () (da_nil (listed_nil (by simp [go_sem, *])) (Nat.le_refl _)) ?_
            clear hK K
            try simp only [at_alloc, at_set, at_heap]
            refine la_strip hT ?_
            try walk_nrm
            repeat (first | refine t_seq hT ?_ | refine t_block hT ?_ | refine t_skip hT ?_ | refine t_inBlock hT ?_ | refine t_rend hT ?_ | refine t_exit hT rfl ?_)
            refine t_region hT [0, 1, 2] rfl ?_
            refine t_op hT rfl (by rfl) (by first | decide | assumption) (by first | rfl | (rw [hro]; rfl)) (fun w₁ hR K hK => ?_)
            obtain ⟨d, rfl⟩ := hR
            go_simp
            try (unfold stored; go_simp)
            try go_ints
            refine hK _ _ () (da_nil (listed_nil (by simp [go_sem, *])) (Nat.le_refl _)) ?_
            clear hK K
            try simp only [at_alloc, at_set, at_heap]
            refine la_strip hT ?_
            try walk_nrm
            refine t_op hT rfl (by rfl) (by first | decide | assumption) (by first | rfl | (rw [hro]; rfl)) (fun w₁ hR K hK => ?_)
            obtain ⟨d, rfl⟩ := hR
            go_simp
            try (unfold stored; go_simp)
            try go_ints
            refine hK _ _ () (da_nil (listed_nil (by simp [go_sem, *])) (Nat.le_refl _)) ?_
            clear hK K
            try simp only [at_alloc, at_set, at_heap]
            refine la_strip hT ?_
            try walk_nrm
            refine t_op hT rfl (by rfl) (by first | decide | assumption) (by first | rfl | (rw [hro]; rfl)) (fun w₁ hR K hK => ?_)
            obtain ⟨d, rfl⟩ := hR
            go_simp
            try (unfold stored; go_simp)
            try go_ints
            refine hK _ _ () (da_nil (listed_nil (by simp [go_sem, *])) (Nat.le_refl _)) ?_
            clear hK K
            try simp only [at_alloc, at_set, at_heap]
            refine la_strip hT ?_
            try walk_nrm
            repeat (first | refine t_seq hT ?_ | refine t_block hT ?_ | refine t_skip hT ?_ | refine t_inBlock hT ?_ | refine t_rend hT ?_ | refine t_exit hT rfl ?_)
            exact IH _ _ _ (by omega) ⟨rfl, rfl, rfl, rfl, rfl, rfl, k + 1, by omega, congrArg (Value.int .i64) hk1.out, congrArg (Value.int .i64) hm1.out, rfl, V5, hi5, hRR5⟩
        · have hd : decide ((k : Int) < (L.length : Int)) = false := by simp; omega
          obtain rfl : k = L.length := by omega
          rw [List.take_length] at *
          have hnz : turnsV xs ≠ 0 := by have := hpos.out.1; omega
          have hmod := hid hpos.out.2
          repeat (first | refine t_seq hT ?_ | refine t_block hT ?_ | refine t_skip hT ?_ | refine t_inBlock hT ?_ | refine t_rend hT ?_ | refine t_exit hT rfl ?_)
          refine t_region hT [0, 1, 2, 3] rfl ?_
          refine t_op hT rfl (by rfl) (by first | decide | assumption) (by first | rfl | (rw [hro]; rfl)) (fun w₁ hR K hK => ?_)
          obtain ⟨d, rfl⟩ := hR
          go_simp
          try (unfold stored; go_simp)
          try go_ints
          refine hK _ _ () (da_nil (listed_nil (by simp [go_sem, *])) (Nat.le_refl _)) ?_
          clear hK K
          try simp only [at_alloc, at_set, at_heap]
          refine la_strip hT ?_
          try walk_nrm
          refine t_op hT rfl (by rfl) (by first | decide | assumption) (by first | rfl | (rw [hro]; rfl)) (fun w₁ hR K hK => ?_)
          obtain ⟨d, rfl⟩ := hR
          go_simp
          try (unfold stored; go_simp)
          try go_ints
          refine hK _ _ () (da_nil (listed_nil (by simp [go_sem, *])) (Nat.le_refl _)) ?_
          clear hK K
          try simp only [at_alloc, at_set, at_heap]
          refine la_strip hT ?_
          try walk_nrm
          refine t_op hT rfl (by rfl) (by first | decide | assumption) (by first | rfl | (rw [hro]; rfl)) (fun w₁ hR K hK => ?_)
          obtain ⟨d, rfl⟩ := hR
          go_simp
          try (unfold stored; go_simp)
          try go_ints
          refine hK _ _ () (da_nil (listed_nil (by simp [go_sem, *])) (Nat.le_refl _)) ?_
          clear hK K
          try simp only [at_alloc, at_set, at_heap]
          refine la_strip hT ?_
          try walk_nrm
          refine t_op hT rfl (by rfl) (by first | decide | assumption) (by first | rfl | (rw [hro]; rfl)) (fun w₁ hR K hK => ?_)
          obtain ⟨d, rfl⟩ := hR
          go_simp
          try (unfold stored; go_simp)
          try go_ints
          refine hK _ _ () (da_nil (listed_nil (by simp [go_sem, *])) (Nat.le_refl _)) ?_
          clear hK K
          try simp only [at_alloc, at_set, at_heap]
          refine la_strip hT ?_
          try walk_nrm
          repeat (first | refine t_seq hT ?_ | refine t_block hT ?_ | refine t_skip hT ?_ | refine t_inBlock hT ?_ | refine t_rend hT ?_ | refine t_exit hT rfl ?_)
          refine t_cond hT (t := _) rfl ?_
          simp only [if_true, if_false, reduceIte, Bool.false_eq_true, *]
          repeat (first | refine t_seq hT ?_ | refine t_block hT ?_ | refine t_skip hT ?_ | refine t_inBlock hT ?_ | refine t_rend hT ?_ | refine t_exit hT rfl ?_)
          refine t_region hT [0, 1, 2, 3, 4, 5, 6, 7, 8, 9, 10, 11, 12, 13, 14] rfl ?_
          refine t_op hT rfl (by rfl) (by first | decide | assumption) (by first | rfl | (rw [hro]; rfl)) (fun w₁ hR K hK => ?_)
          obtain ⟨d, rfl⟩ := hR
          go_simp
          try (unfold stored; go_simp)
          try go_ints
          refine hK _ _ () (da_nil (listed_nil (by simp [go_sem, *])) (Nat.le_refl _)) ?_
          clear hK K
          try simp only [at_alloc, at_set, at_heap]
          refine la_strip hT ?_
          try walk_nrm
          refine t_op hT rfl (by rfl) (by first | decide | assumption) (by first | rfl | (rw [hro]; rfl)) (fun w₁ hR K hK => ?_)
          obtain ⟨d, rfl⟩ := hR
          go_simp
          try (unfold stored; go_simp)
          try go_ints
          refine hK _ _ () (da_nil (listed_nil (by simp [go_sem, *])) (Nat.le_refl _)) ?_
          clear hK K
          try simp only [at_alloc, at_set, at_heap]
          refine la_strip hT ?_
          try walk_nrm
          refine t_op hT rfl (by rfl) (by first | decide | assumption) (by first | rfl | (rw [hro]; rfl)) (fun w₁ hR K hK => ?_)
          obtain ⟨d, rfl⟩ := hR
          have hmo := hmod.out
          go_simp
          try (unfold stored; go_simp)
          try go_ints
          refine hK _ _ () (da_nil (listed_nil (by simp [go_sem, *])) (Nat.le_refl _)) ?_
          clear hK K
          try simp only [at_alloc, at_set, at_heap]
          refine la_strip hT ?_
          try walk_nrm
          refine t_op hT rfl (by rfl) (by first | decide | assumption) (by first | rfl | (rw [hro]; rfl)) (fun w₁ hR K hK => ?_)
          obtain ⟨d, rfl⟩ := hR
          go_simp
          try (unfold stored; go_simp)
          try go_ints
          refine hK _ _ () (da_nil (listed_nil (by simp [go_sem, *])) (Nat.le_refl _)) ?_
          clear hK K
          try simp only [at_alloc, at_set, at_heap]
          refine la_strip hT ?_
          try walk_nrm
          refine t_op hT rfl (by rfl) (by first | decide | assumption) (by first | rfl | (rw [hro]; rfl)) (fun w₁ hR K hK => ?_)
          obtain ⟨d, rfl⟩ := hR
          go_simp
          try (unfold stored; go_simp)
          try go_ints
          refine hK _ _ () (da_nil (listed_nil (by simp [go_sem, *])) (Nat.le_refl _)) ?_
          clear hK K
          try simp only [at_alloc, at_set, at_heap]
          refine la_strip hT ?_
          try walk_nrm
          by_cases hbg : 4 < xs.length
          · have hd4 : decide ((4 : Int) < (xs.length : Int)) = true := by simp; omega
            refine t_op hT rfl (by rfl) (by first | decide | assumption) (by first | rfl | (rw [hro]; rfl)) (fun w₁ hR K hK => ?_)
            obtain ⟨d, rfl⟩ := hR
            go_simp
            try (unfold stored; go_simp)
            try go_ints
            refine hK _ _ () (da_nil (listed_nil (by simp [go_sem, *])) (Nat.le_refl _)) ?_
            clear hK K
            try simp only [at_alloc, at_set, at_heap]
            refine la_strip hT ?_
            try walk_nrm
            refine t_op hT rfl (by rfl) (by first | decide | assumption) (by first | rfl | (rw [hro]; rfl)) (fun w₁ hR K hK => ?_)
            obtain ⟨d, rfl⟩ := hR
            go_simp
            try (unfold stored; go_simp)
            try go_ints
            refine hK _ _ () (da_nil (listed_nil (by simp [go_sem, *])) (Nat.le_refl _)) ?_
            clear hK K
            try simp only [at_alloc, at_set, at_heap]
            refine la_strip hT ?_
            try walk_nrm
            refine t_op hT rfl (by rfl) (by first | decide | assumption) (by first | rfl | (rw [hro]; rfl)) (fun w₁ hR K hK => ?_)
            obtain ⟨d, rfl⟩ := hR
            go_simp
            try (unfold stored; go_simp)
            try go_ints
            refine hK _ _ () (da_nil (listed_nil (by simp [go_sem, *])) (Nat.le_refl _)) ?_
            clear hK K
            try simp only [at_alloc, at_set, at_heap]
            refine la_strip hT ?_
            try walk_nrm
            refine t_op hT rfl (by rfl) (by first | decide | assumption) (by first | rfl | (rw [hro]; rfl)) (fun w₁ hR K hK => ?_)
            obtain ⟨d, rfl⟩ := hR
            go_simp
            try (unfold stored; go_simp)
            try go_ints
            refine hK _ _ () (da_nil (listed_nil (by simp [go_sem, *])) (Nat.le_refl _)) ?_
            clear hK K
            try simp only [at_alloc, at_set, at_heap]
            refine la_strip hT ?_
            try walk_nrm
            refine t_un hT rfl (by rfl) ?_
            try walk_nrm
            refine t_un hT rfl (by rfl) ?_
            try walk_nrm
            refine t_un hT rfl (by rfl) ?_
            try walk_nrm
            refine t_op hT rfl (by rfl) (by first | decide | assumption) (by first | rfl | (rw [hro]; rfl)) (fun w₁ hR K hK => ?_)
            obtain ⟨d, rfl⟩ := hR
            go_simp
            try (unfold stored; go_simp)
            try go_ints
            refine hK _ _ () (da_nil (listed_nil (by simp [go_sem, *])) (Nat.le_refl _)) ?_
            clear hK K
            try simp only [at_alloc, at_set, at_heap]
            refine la_strip hT ?_
            try walk_nrm
            refine t_op hT rfl (by rfl) (by first | decide | assumption) (by first | rfl | (rw [hro]; rfl)) (fun w₁ hR K hK => ?_)
            obtain ⟨d, rfl⟩ := hR
            go_simp
            try (unfold stored; go_simp)
            try go_ints
            refine hK _ _ () (da_nil (listed_nil (by simp [go_sem, *])) (Nat.le_refl _)) ?_
            clear hK K
            try simp only [at_alloc, at_set, at_heap]
            refine la_strip hT ?_
            try walk_nrm
            refine t_op hT rfl (by rfl) (by first | decide | assumption) (by first | rfl | (rw [hro]; rfl)) (fun w₁ hR K hK => ?_)
            obtain ⟨d, rfl⟩ := hR
            go_simp
            try (unfold stored; go_simp)
            try go_ints
            refine hK _ _ () (da_nil (listed_nil (by simp [go_sem, *])) (Nat.le_refl _)) ?_
            clear hK K
            try simp only [at_alloc, at_set, at_heap]
            refine la_strip hT ?_
            try walk_nrm
            refine t_rend hT ?_
            exact hret1.out _ _ _ _ rfl rfl hi
          · have hd4 : decide ((4 : Int) < (xs.length : Int)) = false := by simp; omega
            have hmt := hkeep.out (by omega)
            have hdm : (((manyV L : Nat) : Int) == turnsV xs) = true := by rw [hmt]; simp
            have hdm2 : decide (((manyV L : Nat) : Int) = turnsV xs) = true := by rw [hmt]; simp
            clear hmt
            refine t_op hT rfl (by rfl) (by first | decide | assumption) (by first | rfl | (rw [hro]; rfl)) (fun w₁ hR K hK => ?_)
            obtain ⟨d, rfl⟩ := hR
            go_simp
            try (unfold stored; go_simp)
            try go_ints
            refine hK _ _ () (da_nil (listed_nil (by simp [go_sem, *])) (Nat.le_refl _)) ?_
            clear hK K
            try simp only [at_alloc, at_set, at_heap]
            refine la_strip hT ?_
            try walk_nrm
            refine t_op hT rfl (by rfl) (by first | decide | assumption) (by first | rfl | (rw [hro]; rfl)) (fun w₁ hR K hK => ?_)
            obtain ⟨d, rfl⟩ := hR
            go_simp
            try (unfold stored; go_simp)
            try go_ints
            refine hK _ _ () (da_nil (listed_nil (by simp [go_sem, *])) (Nat.le_refl _)) ?_
            clear hK K
            try simp only [at_alloc, at_set, at_heap]
            refine la_strip hT ?_
            try walk_nrm
            refine t_op hT rfl (by rfl) (by first | decide | assumption) (by first | rfl | (rw [hro]; rfl)) (fun w₁ hR K hK => ?_)
            obtain ⟨d, rfl⟩ := hR
            go_simp
            try (unfold stored; go_simp)
            try go_ints
            refine hK _ _ () (da_nil (listed_nil (by simp [go_sem, *])) (Nat.le_refl _)) ?_
            clear hK K
            try simp only [at_alloc, at_set, at_heap]
            refine la_strip hT ?_
            try walk_nrm
            refine t_op hT rfl (by rfl) (by first | decide | assumption) (by first | rfl | (rw [hro]; rfl)) (fun w₁ hR K hK => ?_)
            obtain ⟨d, rfl⟩ := hR
            go_simp
            try (unfold stored; go_simp)
            try go_ints
            refine hK _ _ () (da_nil (listed_nil (by simp [go_sem, *])) (Nat.le_refl _)) ?_
            clear hK K
            try simp only [at_alloc, at_set, at_heap]
            refine la_strip hT ?_
            try walk_nrm
            refine t_op hT rfl (by rfl) (by first | decide | assumption) (by first | rfl | (rw [hro]; rfl)) (fun w₁ hR K hK => ?_)
            obtain ⟨d, rfl⟩ := hR
            go_simp
            try (unfold stored; go_simp)
            try go_ints
            refine hK _ _ () (da_nil (listed_nil (by simp [go_sem, *])) (Nat.le_refl _)) ?_
            clear hK K
            try simp only [at_alloc, at_set, at_heap]
            refine la_strip hT ?_
            try walk_nrm
            refine t_op hT rfl (by rfl) (by first | decide | assumption) (by first | rfl | (rw [hro]; rfl)) (fun w₁ hR K hK => ?_)
            obtain ⟨d, rfl⟩ := hR
            go_simp
            try (unfold stored; go_simp)
            try go_ints
            refine hK _ _ () (da_nil (listed_nil (by simp [go_sem, *])) (Nat.le_refl _)) ?_
            clear hK K
            try simp only [at_alloc, at_set, at_heap]
            refine la_strip hT ?_
            try walk_nrm
            refine t_op hT rfl (by rfl) (by first | decide | assumption) (by first | rfl | (rw [hro]; rfl)) (fun w₁ hR K hK => ?_)
            obtain ⟨d, rfl⟩ := hR
            go_simp
            try (unfold stored; go_simp)
            try go_ints
            refine hK _ _ () (da_nil (listed_nil (by simp [go_sem, *])) (Nat.le_refl _)) ?_
            clear hK K
            try simp only [at_alloc, at_set, at_heap]
            refine la_strip hT ?_
            try walk_nrm
            refine t_op hT rfl (by rfl) (by first | decide | assumption) (by first | rfl | (rw [hro]; rfl)) (fun w₁ hR K hK => ?_)
            obtain ⟨d, rfl⟩ := hR
            go_simp
            try (unfold stored; go_simp)
            try go_ints
            refine hK _ _ () (da_nil (listed_nil (by simp [go_sem, *])) (Nat.le_refl _)) ?_
            clear hK K
            try simp only [at_alloc, at_set, at_heap]
            refine la_strip hT ?_
            try walk_nrm
            refine t_op hT rfl (by rfl) (by first | decide | assumption) (by first | rfl | (rw [hro]; rfl)) (fun w₁ hR K hK => ?_)
            obtain ⟨d, rfl⟩ := hR
            go_simp
            try (unfold stored; go_simp)
            try go_ints
            refine hK _ _ () (da_nil (listed_nil (by simp [go_sem, *])) (Nat.le_refl _)) ?_
            clear hK K
            try simp only [at_alloc, at_set, at_heap]
            refine la_strip hT ?_
            try walk_nrm
            refine t_op hT rfl (by rfl) (by first | decide | assumption) (by first | rfl | (rw [hro]; rfl)) (fun w₁ hR K hK => ?_)
            obtain ⟨d, rfl⟩ := hR
            go_simp
            try (unfold stored; go_simp)
            try go_ints
            refine hK _ _ () (da_nil (listed_nil (by simp [go_sem, *])) (Nat.le_refl _)) ?_
            clear hK K
            try simp only [at_alloc, at_set, at_heap]
            refine la_strip hT ?_
            try walk_nrm
            refine t_rend hT ?_
            exact hret1.out _ _ _ _ rfl rfl hi
end
end Go.Proofs.Ytkbfcaaihellfaa
