/- Steps on the way to the law; each part says what it proves. -/
import Derived.Test.YtkbfcaaihellfaaWE1

set_option linter.unusedSimpArgs false

/- The law FnExactRootsOf: its run, on every schedule: two calls of RootsOf, each with workers of its own. -/
namespace Go.Proofs.Ytkbfcaaihellfaa
open Go.Conc Go.ConcN Go.ConcN.Gen Go.RowKit Go.Conc.Lib Go.ConcR.Gen
open Go.ConcR (KK wgBlock WgAt stA smA rd wr mk Payload Aside2 DC0)
set_option linter.unusedVariables false
set_option linter.unusedSectionVars false

section
variable {a : Option Addr} {len cap : Nat} {zs : List Int} {w : World}
set_option maxHeartbeats 8000000 in
theorem FnExactRootsOf_la (h : RowIn .i64 w a len cap zs) : LA Try.prog (fun _ => False) (fun v w' => v = .bool true ∧ Below w.heap.size w w') () (G (Frame.enter Try.prog 3 #[.slice a len cap] .normal) []) w := by
  have hcap := h.cap
  unfold maxLen at hcap
  obtain ⟨xs, hxl, hA0, _⟩ := h.read
  subst hxl
  clear h
  obtain ⟨Post, hPost⟩ : ∃ Post : Value → World → Prop, Post = fun v w' => v = .bool true ∧ Below w.heap.size w w' := ⟨_, rfl⟩
  have done := hid (show ∀ w', Below w.heap.size w w' → Post (.bool true) w' from fun w' hb => by rw [hPost]; exact ⟨rfl, hb⟩)
  rw [← hPost]
  clear hPost
  rw [enter_atR _ Try.func3 rfl]
  have hk : (base 3).kind ≠ .early := base_kind _
  have hro : (base 3).roundOf = none := rfl
  have hret := hid (fun (Sb : Nat → Prop) (v' : World) (a : Act) (k : List Item) (w' : World) (hd : a.defers = []) (hv : a.tmps.getD 2 undef = .bool true) (hi : Inv Sb w v' w') => la_ret (Sb := Sb) (Post := Post) (k := k) hd Try.func3 rfl (by kernel_rfl) hv (fun d => done.out _ (hi.at d).below))
  have hRO' := hid (fun (Sb : Nat → Prop) (v w1 : World) (A : Option Addr) (c : Nat) (fr : Frame) (cs : List Frame) (hi : Inv Sb w v w1) (hA : RdA v A xs) (hn : xs.length ≤ 1048577) => rootsOf_i (Post := Post) (A := A) (c := c) (xs := xs) (fr := fr) (cs := cs) hi hA hn)
  have hT := clo_la (P := Try.prog) (Sb := fun _ => False) (Post := Post)
  have hi0 := Inv.start w
  have hRO := hid (hRO'.out (fun _ => False))
  have hret0 := hid (hret.out (fun _ => False))
  by_cases hbig : 1048576 < xs.length
  · generalize hT' : LA Try.prog (fun _ => False) Post = T at hT hret0 ⊢
    simp only [Try.ntmps3, List.size_toArray, List.length_cons, List.length_nil, Nat.reduceAdd, Nat.reduceSub, Array.replicate_succ, Array.replicate_zero, List.push_toArray, List.append_toArray, List.nil_append, List.cons_append]
    have hd : decide ((1048576 : Int) < (xs.length : Int)) = true := by simp; omega
    repeat (first | refine t_seq hT ?_ | refine t_block hT ?_ | refine t_skip hT ?_ | refine t_inBlock hT ?_ | refine t_rend hT ?_ | refine t_exit hT rfl ?_)
    refine t_region hT [0] rfl ?_
    refine t_op hT rfl (by rfl) (by first | decide | assumption) (by first | rfl | (rw [hro]; rfl)) (fun w₁ hR K hK => ?_)
    obtain ⟨d, rfl⟩ := hR
    go_simp
    try (unfold stored; go_simp)
    try go_ints
    refine hK _ _ () (da_nil (listed_nil (by simp [go_sem, *])) (Nat.le_refl _)) ?_
    clear hK K
    try simp only [at_alloc, at_set, at_heap]
    refine la_strip hT ?_
    try walk_nrm
    repeat (first | refine t_seq hT ?_ | refine t_block hT ?_ | refine t_skip hT ?_ | refine t_inBlock hT ?_ | refine t_rend hT ?_ | refine t_exit hT rfl ?_)
    refine t_region hT [0, 1, 2] rfl ?_
    refine t_op hT rfl (by rfl) (by first | decide | assumption) (by first | rfl | (rw [hro]; rfl)) (fun w₁ hR K hK => ?_)
    obtain ⟨d, rfl⟩ := hR
    go_simp
    try (unfold stored; go_simp)
    try go_ints
    refine hK _ _ () (da_nil (listed_nil (by simp [go_sem, *])) (Nat.le_refl _)) ?_
    clear hK K
    try simp only [at_alloc, at_set, at_heap]
    refine la_strip hT ?_
    try walk_nrm
    refine t_op hT rfl (by rfl) (by first | decide | assumption) (by first | rfl | (rw [hro]; rfl)) (fun w₁ hR K hK => ?_)
    obtain ⟨d, rfl⟩ := hR
    go_simp
    try (unfold stored; go_simp)
    try go_ints
    refine hK _ _ () (da_nil (listed_nil (by simp [go_sem, *])) (Nat.le_refl _)) ?_
    clear hK K
    try simp only [at_alloc, at_set, at_heap]
    refine la_strip hT ?_
    try walk_nrm
    refine t_op hT rfl (by rfl) (by first | decide | assumption) (by first | rfl | (rw [hro]; rfl)) (fun w₁ hR K hK => ?_)
    obtain ⟨d, rfl⟩ := hR
    go_simp
    try (unfold stored; go_simp)
    try go_ints
    refine hK _ _ () (da_nil (listed_nil (by simp [go_sem, *])) (Nat.le_refl _)) ?_
    clear hK K
    try simp only [at_alloc, at_set, at_heap]
    refine la_strip hT ?_
    try walk_nrm
    repeat (first | refine t_seq hT ?_ | refine t_block hT ?_ | refine t_skip hT ?_ | refine t_inBlock hT ?_ | refine t_rend hT ?_ | refine t_exit hT rfl ?_)
    refine t_cond hT (t := _) rfl ?_
    simp only [if_true, if_false, reduceIte, Bool.false_eq_true, *]
    repeat (first | refine t_seq hT ?_ | refine t_block hT ?_ | refine t_skip hT ?_ | refine t_inBlock hT ?_ | refine t_rend hT ?_ | refine t_exit hT rfl ?_)
    refine t_region hT [0] rfl ?_
    refine t_op hT rfl (by rfl) (by first | decide | assumption) (by first | rfl | (rw [hro]; rfl)) (fun w₁ hR K hK => ?_)
    obtain ⟨d, rfl⟩ := hR
    go_simp
    try (unfold stored; go_simp)
    try go_ints
    refine hK _ _ () (da_nil (listed_nil (by simp [go_sem, *])) (Nat.le_refl _)) ?_
    clear hK K
    try simp only [at_alloc, at_set, at_heap]
    refine la_strip hT ?_
    try walk_nrm
    refine t_rend hT ?_
    exact hret0.out _ _ _ _ rfl rfl hi0
  · have hd : decide ((1048576 : Int) < (xs.length : Int)) = false := by simp; omega
    have hx : xs.length ≤ 1048576 := by omega
    have hx7 : xs.length ≤ 1048577 := by omega
    have hA : RdAn w.heap.size w a xs := .of hA0
    obtain ⟨n, hn4, hnn⟩ : ∃ n, n ≤ 4 ∧ ∀ k, k < (rootsV xs).length → (gl (rootsV xs) k).length = n := by
      by_cases h4 : xs.length ≤ 4
      · exact rows_n h4 fun g hg => (rootsV_row hg).2.2.1
      · refine ⟨0, by omega, fun k hk => ?_⟩
        exact absurd (rootsV_row (glmem hk)).2.1 h4
    have hLl : (rootsV xs).length ≤ 1000 := rootsV_len xs
    have hnd := hid (rootsV_nodup xs)
    have hgl := hid (fun k (hk : k < (rootsV xs).length) => show (gl (rootsV xs) k).length ≤ 1048577 by rw [hnn k hk]; omega)
    have hnn := hid hnn
    have CT := hid (fun (v w : World) (hp : PR (fun _ => False) v w) (hA : RdA v a xs) => toIntS_la (Post := Post) (c := cap) hp hA hx)
    have CSR := hid (fun (v w : World) (A : Option Addr) (c : Nat) (hp : PR (fun _ => False) v w) (hA : RdA v A xs) => sRootsOf_la (Post := Post) (c := c) hp hA hx7)
    have CT' := hid (fun (Sb : Nat → Prop) (v w : World) (hp : PR Sb v w) (hA : RdA v a xs) => toIntS_la (Post := Post) (c := cap) hp hA hx)
    have CE' := hid (fun (Sb : Nat → Prop) (v w : World) (A B : Option Addr) (c d : Nat) (hp : PR Sb v w) (hA : RdA v A xs) (hB : RdA v B xs) => eqIntS_la (Post := Post) (c := c) (d := d) hp hA hB hx7)
    have CQ' := hid (fun (Sb : Nat → Prop) (v w : World) (A B : Option Addr) (c d : Nat) (hp : PR Sb v w) (hA : RdRR v A (rootsV xs)) (hB : RdRR v B (rootsV xs)) => eqIntSS_la (Post := Post) (c := c) (d := d) hp hA hB (by omega) hgl.out)
    have CM' := hid (fun (Sb : Nat → Prop) (v w : World) (A : Option Addr) (c N : Nat) (hp : PR Sb v w) (ho : Own N v (.slice A xs.length c) xs) => markIntS_la (Post := Post) (k0 := 1) hp ho hx7 (by omega) (by omega))
    have CMM' := hid (fun (Sb : Nat → Prop) (v w : World) (A : Option Addr) (c : Nat) (r e : Nat → Nat) (hp : PR Sb v w) (h : RowsAt v A r e (rootsV xs)) => markIntSS_la (Post := Post) (c := c) hp h hnn.out hLl hn4)
    have CH' := hid (fun (Sb : Nat → Prop) (v w : World) (A : Option Addr) (c : Nat) (hp : PR Sb v w) (h : RdRR v A (marks 1 n (rootsV xs) (rootsV xs).length)) => heldIntSS_la (Post := Post) (c := c) hp h hLl hn4)
    unfold CLA at CT CSR CT' CE' CQ' CM' CMM' CH'
    generalize hL : rootsV xs = L at *
    have hLn : 1 + ((L.length * n : Nat) : Int) ≤ 4001 ∧ 0 ≤ ((L.length * n : Nat) : Int) := by
      have := Nat.mul_le_mul hLl hn4
      omega
    generalize hT' : LA Try.prog (fun _ => False) Post = T at hT hret0 hRO CT CSR ⊢
    simp only [Try.ntmps3, List.size_toArray, List.length_cons, List.length_nil, Nat.reduceAdd, Nat.reduceSub, Array.replicate_succ, Array.replicate_zero, List.push_toArray, List.append_toArray, List.nil_append, List.cons_append]
    repeat (first | refine t_seq hT ?_ | refine t_block hT ?_ | refine t_skip hT ?_ | refine t_inBlock hT ?_ | refine t_rend hT ?_ | refine t_exit hT rfl ?_)
    refine t_region hT [0] rfl ?_
    refine t_op hT rfl (by rfl) (by first | decide | assumption) (by first | rfl | (rw [hro]; rfl)) (fun w₁ hR K hK => ?_)
    obtain ⟨d, rfl⟩ := hR
    go_simp
    try (unfold stored; go_simp)
    try go_ints
    refine hK _ _ () (da_nil (listed_nil (by simp [go_sem, *])) (Nat.le_refl _)) ?_
    clear hK K
    try simp only [at_alloc, at_set, at_heap]
    refine la_strip hT ?_
    try walk_nrm
    repeat (first | refine t_seq hT ?_ | refine t_block hT ?_ | refine t_skip hT ?_ | refine t_inBlock hT ?_ | refine t_rend hT ?_ | refine t_exit hT rfl ?_)
    refine t_region hT [0, 1, 2] rfl ?_
    refine t_op hT rfl (by rfl) (by first | decide | assumption) (by first | rfl | (rw [hro]; rfl)) (fun w₁ hR K hK => ?_)
    obtain ⟨d, rfl⟩ := hR
    go_simp
    try (unfold stored; go_simp)
    try go_ints
    refine hK _ _ () (da_nil (listed_nil (by simp [go_sem, *])) (Nat.le_refl _)) ?_
    clear hK K
    try simp only [at_alloc, at_set, at_heap]
    refine la_strip hT ?_
    try walk_nrm
    refine t_op hT rfl (by rfl) (by first | decide | assumption) (by first | rfl | (rw [hro]; rfl)) (fun w₁ hR K hK => ?_)
    obtain ⟨d, rfl⟩ := hR
    go_simp
    try (unfold stored; go_simp)
    try go_ints
    refine hK _ _ () (da_nil (listed_nil (by simp [go_sem, *])) (Nat.le_refl _)) ?_
    clear hK K
    try simp only [at_alloc, at_set, at_heap]
    refine la_strip hT ?_
    try walk_nrm
    refine t_op hT rfl (by rfl) (by first | decide | assumption) (by first | rfl | (rw [hro]; rfl)) (fun w₁ hR K hK => ?_)
    obtain ⟨d, rfl⟩ := hR
    go_simp
    try (unfold stored; go_simp)
    try go_ints
    refine hK _ _ () (da_nil (listed_nil (by simp [go_sem, *])) (Nat.le_refl _)) ?_
    clear hK K
    try simp only [at_alloc, at_set, at_heap]
    refine la_strip hT ?_
    try walk_nrm
    repeat (first | refine t_seq hT ?_ | refine t_block hT ?_ | refine t_skip hT ?_ | refine t_inBlock hT ?_ | refine t_rend hT ?_ | refine t_exit hT rfl ?_)
    refine t_cond hT (t := _) rfl ?_
    simp only [if_true, if_false, reduceIte, Bool.false_eq_true, *]
    repeat (first | refine t_seq hT ?_ | refine t_block hT ?_ | refine t_skip hT ?_ | refine t_inBlock hT ?_ | refine t_rend hT ?_ | refine t_exit hT rfl ?_)
    refine t_region hT [0, 1, 2, 3] rfl ?_
    refine t_op hT rfl (by rfl) (by first | decide | assumption) (by first | rfl | (rw [hro]; rfl)) (fun w₁ hR K hK => ?_)
    obtain ⟨d, rfl⟩ := hR
    go_simp
    try (unfold stored; go_simp)
    try go_ints
    refine hK _ _ () (da_nil (listed_nil (by simp [go_sem, *])) (Nat.le_refl _)) ?_
    clear hK K
    try simp only [at_alloc, at_set, at_heap]
    refine la_strip hT ?_
    try walk_nrm
    refine t_call hT rfl (by rfl) (by first | decide | assumption) (by first | rfl | (rw [hro]; rfl)) rfl Try.func10 (by rfl) rfl (by walk_nrm; exact CT.out _ _ hi0.pr hA.rd) ?_
    rintro _ ⟨⟩ W1 ⟨ht, V1, hp, ⟨⟨⟨T1, c1⟩, rfl, ho1⟩, l⟩⟩
    try walk_nrm
    have hi1 := hi0.ltr l hp ht
    replace hA := hA.ltr hi0.pr l
    clear ht hp l hA0 hret0 hbig hd
    refine t_call hT rfl (by rfl) (by first | decide | assumption) (by first | rfl | (rw [hro]; rfl)) rfl Try.func9 (by rfl) rfl (by walk_nrm; exact CSR.out _ _ _ _ hi1.pr ho1.rd) ?_
    rintro _ ⟨⟩ W2 ⟨ht, V2, hp, ⟨⟨⟨B, d⟩, rfl, hB'⟩, l⟩⟩
    try walk_nrm
    have hi2 := hi1.ltr l hp ht
    replace hA := hA.ltr hi1.pr l
    have hB : RdRn V2.heap.size V2 B L := .of hB'
    have hN2 : w.heap.size ≤ V2.heap.size := hi2.size
    clear ht hp l hB' hi1 ho1 CSR
    refine t_op hT rfl (by rfl) (by first | decide | assumption) (by first | rfl | (rw [hro]; rfl)) (fun w₁ hR K hK => ?_)
    obtain ⟨d, rfl⟩ := hR
    go_simp
    try (unfold stored; go_simp)
    try go_ints
    refine hK _ _ () (da_nil (listed_nil (by simp [go_sem, *])) (Nat.le_refl _)) ?_
    clear hK K
    try simp only [at_alloc, at_set, at_heap]
    refine la_strip hT ?_
    try walk_nrm
    repeat (first | refine t_seq hT ?_ | refine t_block hT ?_ | refine t_skip hT ?_ | refine t_inBlock hT ?_ | refine t_rend hT ?_ | refine t_exit hT rfl ?_)
    refine t_region hT [0, 1, 2] rfl ?_
    refine t_op hT rfl (by rfl) (by first | decide | assumption) (by first | rfl | (rw [hro]; rfl)) (fun w₁ hR K hK => ?_)
    obtain ⟨d, rfl⟩ := hR
    go_simp
    try (unfold stored; go_simp)
    try go_ints
    refine hK _ _ () (da_nil (listed_nil (by simp [go_sem, *])) (Nat.le_refl _)) ?_
    clear hK K
    try simp only [at_alloc, at_set, at_heap]
    refine la_strip hT ?_
    try walk_nrm
    refine t_call hT rfl (by rfl) (by first | decide | assumption) (by first | rfl | (rw [hro]; rfl)) rfl Try.func10 (by rfl) rfl (by walk_nrm; exact CT.out _ _ hi2.pr hA.rd) ?_
    rintro _ ⟨⟩ W3 ⟨ht, V3, hp, ⟨⟨⟨X, cX⟩, rfl, hX⟩, l⟩⟩
    try walk_nrm
    have hi3 := hi2.ltr l hp ht
    have hi2s := hid (show V2.heap.size ≤ V3.heap.size from l.size)
    replace hA := hA.ltr hi2.pr l
    replace hB := hB.ltr hi2.pr l
    clear ht hp l CT hi2
    refine t_op hT rfl (by rfl) (by first | decide | assumption) (by first | rfl | (rw [hro]; rfl)) (fun w₁ hR K hK => ?_)
    obtain ⟨d, rfl⟩ := hR
    go_simp
    try (unfold stored; go_simp)
    try go_ints
    refine hK _ _ () (da_nil (listed_nil (by simp [go_sem, *])) (Nat.le_refl _)) ?_
    clear hK K
    try simp only [at_alloc, at_set, at_heap]
    refine la_strip hT ?_
    try walk_nrm
    repeat (first | refine t_seq hT ?_ | refine t_block hT ?_ | refine t_skip hT ?_ | refine t_inBlock hT ?_ | refine t_rend hT ?_ | refine t_exit hT rfl ?_)
    refine t_region hT [0, 1, 2] rfl ?_
    refine t_op hT rfl (by rfl) (by first | decide | assumption) (by first | rfl | (rw [hro]; rfl)) (fun w₁ hR K hK => ?_)
    obtain ⟨d, rfl⟩ := hR
    go_simp
    try (unfold stored; go_simp)
    try go_ints
    refine hK _ _ () (da_nil (listed_nil (by simp [go_sem, *])) (Nat.le_refl _)) ?_
    clear hK K
    try simp only [at_alloc, at_set, at_heap]
    refine la_strip hT ?_
    try walk_nrm
    refine t_enter hT rfl (by rfl) (by first | decide | assumption) (by first | rfl | (rw [hro]; rfl)) rfl Try.func11 (by rfl) rfl ?_
    walk_nrm
    refine hRO.out _ _ _ _ _ _ hi3 hX.rd hx7 (fun Sb' M V4 W4 ad cp hsub hi4 l4 hG => ?_)
    replace hA := hA.ltr hi3.pr l4
    replace hB := hB.ltr hi3.pr l4
    have hXb : ∀ g, (Value.slice X xs.length cX).ownBlock = some g → V2.heap.size ≤ g ∧ g < V3.heap.size ∧ ¬ Sb' g := fun g hg => by
      have := hX.lt g hg
      exact ⟨this.1, this.2, fun hs => hsub g this.2 hs⟩
    have hX4 : Own V2.heap.size V4 (.slice X xs.length cX) xs := hX.same fun g hg => l4.block g (hXb g hg).2.1 id
    have hz4 : V3.heap.size ≤ V4.heap.size := l4.size
    have hbd := hG.bd
    have hGr := hG.rows
    obtain ⟨r, e, hrw, hrM, hrA⟩ := AllR.rowsAt hGr hnd.out hnn.out
    clear hT hRO hi3 l4 hG hGr hX
    have hT := clo_la (P := Try.prog) (Sb := Sb') (Post := Post)
    have hRO2 := hid (hRO'.out Sb')
    have CT := hid (CT'.out Sb')
    have CE := hid (CE'.out Sb')
    have CQ := hid (CQ'.out Sb')
    have CM := hid (CM'.out Sb')
    have CMM := hid (CMM'.out Sb')
    have CH := hid (CH'.out Sb')
    generalize LA Try.prog Sb' Post = T2 at hT hRO2 CT CE CQ CM CMM CH ⊢
    rw [Frame.finish_atR]
    try walk_nrm
    refine t_op hT rfl (by rfl) (by first | decide | assumption) (by first | rfl | (rw [hro]; rfl)) (fun w₁ hR K hK => ?_)
    obtain ⟨d, rfl⟩ := hR
    go_simp
    try (unfold stored; go_simp)
    try go_ints
    refine hK _ _ () (da_nil (listed_nil (by simp [go_sem, *])) (Nat.le_refl _)) ?_
    clear hK K
    try simp only [at_alloc, at_set, at_heap]
    refine la_strip hT ?_
    try walk_nrm
    repeat (first | refine t_seq hT ?_ | refine t_block hT ?_ | refine t_skip hT ?_ | refine t_inBlock hT ?_ | refine t_rend hT ?_ | refine t_exit hT rfl ?_)
    refine t_region hT [0, 1, 2, 3] rfl ?_
    refine t_op hT rfl (by rfl) (by first | decide | assumption) (by first | rfl | (rw [hro]; rfl)) (fun w₁ hR K hK => ?_)
    obtain ⟨d, rfl⟩ := hR
    go_simp
    try (unfold stored; go_simp)
    try go_ints
    refine hK _ _ () (da_nil (listed_nil (by simp [go_sem, *])) (Nat.le_refl _)) ?_
    clear hK K
    try simp only [at_alloc, at_set, at_heap]
    refine la_strip hT ?_
    try walk_nrm
    refine t_op hT rfl (by rfl) (by first | decide | assumption) (by first | rfl | (rw [hro]; rfl)) (fun w₁ hR K hK => ?_)
    obtain ⟨d, rfl⟩ := hR
    go_simp
    try (unfold stored; go_simp)
    try go_ints
    refine hK _ _ () (da_nil (listed_nil (by simp [go_sem, *])) (Nat.le_refl _)) ?_
    clear hK K
    try simp only [at_alloc, at_set, at_heap]
    refine la_strip hT ?_
    try walk_nrm
    refine t_call hT rfl (by rfl) (by first | decide | assumption) (by first | rfl | (rw [hro]; rfl)) rfl Try.func12 (by rfl) rfl (by walk_nrm; exact CQ.out _ _ _ _ _ _ hi4.pr hrw.rd hB.rd) ?_
    rintro _ ⟨⟩ W5 ⟨ht, V5, hp, rfl, l⟩
    try walk_nrm
    have hi5 := hi4.ltr l hp ht
    replace hA := hA.ltr hi4.pr l
    replace hB := hB.ltr hi4.pr l
    have hX5 : Own V2.heap.size V5 (.slice X xs.length cX) xs := hX4.same fun g hg => l.block g (by have := (hXb g hg).2.1; omega) (hXb g hg).2.2
    replace hrw : RowsAt V5 ad r e L := hrw.of (fun q hq h0 => l.block _ (hbd _ (hrA q hq h0)).2.1 (hbd _ (hrA q hq h0)).2.2) (fun k hk => l.block _ (hbd _ (hrM k hk)).2.1 (hbd _ (hrM k hk)).2.2)
    have hz5 : V4.heap.size ≤ V5.heap.size := l.size
    clear ht hp l hi4 hX4
    refine t_op hT rfl (by rfl) (by first | decide | assumption) (by first | rfl | (rw [hro]; rfl)) (fun w₁ hR K hK => ?_)
    obtain ⟨d, rfl⟩ := hR
    go_simp
    try (unfold stored; go_simp)
    try go_ints
    refine hK _ _ () (da_nil (listed_nil (by simp [go_sem, *])) (Nat.le_refl _)) ?_
    clear hK K
    try simp only [at_alloc, at_set, at_heap]
    refine la_strip hT ?_
    try walk_nrm
    repeat (first | refine t_seq hT ?_ | refine t_block hT ?_ | refine t_skip hT ?_ | refine t_inBlock hT ?_ | refine t_rend hT ?_ | refine t_exit hT rfl ?_)
    refine t_cond hT (t := _) rfl ?_
    simp only [if_true, if_false, reduceIte, Bool.false_eq_true, *]
    repeat (first | refine t_seq hT ?_ | refine t_block hT ?_ | refine t_skip hT ?_ | refine t_inBlock hT ?_ | refine t_rend hT ?_ | refine t_exit hT rfl ?_)
    refine t_region hT [0, 1, 2, 3, 4] rfl ?_
    refine t_op hT rfl (by rfl) (by first | decide | assumption) (by first | rfl | (rw [hro]; rfl)) (fun w₁ hR K hK => ?_)
    obtain ⟨d, rfl⟩ := hR
    go_simp
    try (unfold stored; go_simp)
    try go_ints
    refine hK _ _ () (da_nil (listed_nil (by simp [go_sem, *])) (Nat.le_refl _)) ?_
    clear hK K
    try simp only [at_alloc, at_set, at_heap]
    refine la_strip hT ?_
    try walk_nrm
    refine t_op hT rfl (by rfl) (by first | decide | assumption) (by first | rfl | (rw [hro]; rfl)) (fun w₁ hR K hK => ?_)
    obtain ⟨d, rfl⟩ := hR
    go_simp
    try (unfold stored; go_simp)
    try go_ints
    refine hK _ _ () (da_nil (listed_nil (by simp [go_sem, *])) (Nat.le_refl _)) ?_
    clear hK K
    try simp only [at_alloc, at_set, at_heap]
    refine la_strip hT ?_
    try walk_nrm
    refine t_call hT rfl (by rfl) (by first | decide | assumption) (by first | rfl | (rw [hro]; rfl)) rfl Try.func10 (by rfl) rfl (by walk_nrm; exact CT.out _ _ hi5.pr hA.rd) ?_
    rintro _ ⟨⟩ W6 ⟨ht, V6, hp, ⟨⟨⟨Y, cY⟩, rfl, hY⟩, l⟩⟩
    try walk_nrm
    have hi6 := hi5.ltr l hp ht
    replace hA := hA.ltr hi5.pr l
    replace hB := hB.ltr hi5.pr l
    have hX6 : Own V2.heap.size V6 (.slice X xs.length cX) xs := hX5.same fun g hg => l.block g (by have := (hXb g hg).2.1; omega) (hXb g hg).2.2
    replace hrw : RowsAt V6 ad r e L := hrw.of (fun q hq h0 => l.block _ (by have := (hbd _ (hrA q hq h0)).2.1; omega) (hbd _ (hrA q hq h0)).2.2) (fun k hk => l.block _ (by have := (hbd _ (hrM k hk)).2.1; omega) (hbd _ (hrM k hk)).2.2)
    have hz6 : V5.heap.size ≤ V6.heap.size := l.size
    clear ht hp l hi5 hX5
    refine t_call hT rfl (by rfl) (by first | decide | assumption) (by first | rfl | (rw [hro]; rfl)) rfl Try.func13 (by rfl) rfl (by walk_nrm; exact CE.out _ _ _ _ _ _ hi6.pr hX6.rd hY.rd) ?_
    rintro _ ⟨⟩ W7 ⟨ht, V7, hp, rfl, l⟩
    try walk_nrm
    have hi7 := hi6.ltr l hp ht
    replace hA := hA.ltr hi6.pr l
    replace hB := hB.ltr hi6.pr l
    have hX7 : Own V2.heap.size V7 (.slice X xs.length cX) xs := hX6.same fun g hg => l.block g (by have := (hXb g hg).2.1; omega) (hXb g hg).2.2
    replace hrw : RowsAt V7 ad r e L := hrw.of (fun q hq h0 => l.block _ (by have := (hbd _ (hrA q hq h0)).2.1; omega) (hbd _ (hrA q hq h0)).2.2) (fun k hk => l.block _ (by have := (hbd _ (hrM k hk)).2.1; omega) (hbd _ (hrM k hk)).2.2)
    have hz7 : V6.heap.size ≤ V7.heap.size := l.size
    clear ht hp l hi6 hX6 hY
    refine t_op hT rfl (by rfl) (by first | decide | assumption) (by first | rfl | (rw [hro]; rfl)) (fun w₁ hR K hK => ?_)
    obtain ⟨d, rfl⟩ := hR
    go_simp
    try (unfold stored; go_simp)
    try go_ints
    refine hK _ _ () (da_nil (listed_nil (by simp [go_sem, *])) (Nat.le_refl _)) ?_
    clear hK K
    try simp only [at_alloc, at_set, at_heap]
    refine la_strip hT ?_
    try walk_nrm
    repeat (first | refine t_seq hT ?_ | refine t_block hT ?_ | refine t_skip hT ?_ | refine t_inBlock hT ?_ | refine t_rend hT ?_ | refine t_exit hT rfl ?_)
    refine t_cond hT (t := _) rfl ?_
    simp only [if_true, if_false, reduceIte, Bool.false_eq_true, *]
    repeat (first | refine t_seq hT ?_ | refine t_block hT ?_ | refine t_skip hT ?_ | refine t_inBlock hT ?_ | refine t_rend hT ?_ | refine t_exit hT rfl ?_)
    refine t_region hT [0] rfl ?_
    refine t_op hT rfl (by rfl) (by first | decide | assumption) (by first | rfl | (rw [hro]; rfl)) (fun w₁ hR K hK => ?_)
    obtain ⟨d, rfl⟩ := hR
    go_simp
    try (unfold stored; go_simp)
    try go_ints
    refine hK _ _ () (da_nil (listed_nil (by simp [go_sem, *])) (Nat.le_refl _)) ?_
    clear hK K
    try simp only [at_alloc, at_set, at_heap]
    refine la_strip hT ?_
    try walk_nrm
    repeat (first | refine t_seq hT ?_ | refine t_block hT ?_ | refine t_skip hT ?_ | refine t_inBlock hT ?_ | refine t_rend hT ?_ | refine t_exit hT rfl ?_)
    refine t_region hT [0, 1, 2, 3] rfl ?_
    refine t_op hT rfl (by rfl) (by first | decide | assumption) (by first | rfl | (rw [hro]; rfl)) (fun w₁ hR K hK => ?_)
    obtain ⟨d, rfl⟩ := hR
    go_simp
    try (unfold stored; go_simp)
    try go_ints
    refine hK _ _ () (da_nil (listed_nil (by simp [go_sem, *])) (Nat.le_refl _)) ?_
    clear hK K
    try simp only [at_alloc, at_set, at_heap]
    refine la_strip hT ?_
    try walk_nrm
    refine t_op hT rfl (by rfl) (by first | decide | assumption) (by first | rfl | (rw [hro]; rfl)) (fun w₁ hR K hK => ?_)
    obtain ⟨d, rfl⟩ := hR
    go_simp
    try (unfold stored; go_simp)
    try go_ints
    refine hK _ _ () (da_nil (listed_nil (by simp [go_sem, *])) (Nat.le_refl _)) ?_
    clear hK K
    try simp only [at_alloc, at_set, at_heap]
    refine la_strip hT ?_
    try walk_nrm
    refine t_call hT rfl (by rfl) (by first | decide | assumption) (by first | rfl | (rw [hro]; rfl)) rfl Try.func14 (by rfl) rfl (by walk_nrm; exact CM.out _ _ _ _ _ hi7.pr hX7) ?_
    rintro _ ⟨⟩ W8 ⟨ht, V8, hp, rfl, l⟩
    try walk_nrm
    have hi8 := hi7.tch l (fun b hb => by have := (hXb b hb).1; omega) hp ht
    replace hA := hA.same (v' := V8) fun b hb => l.block b fun hx => by have := (hXb b hx).1; omega
    replace hB := hB.same (v' := V8) fun b hb => l.block b fun hx => by have := (hXb b hx).1; omega
    replace hrw : RowsAt V8 ad r e L := hrw.of (fun q hq h0 => l.block _ fun hx => by have := (hbd _ (hrA q hq h0)).1; have := (hXb _ hx).2.1; omega) (fun k hk => l.block _ fun hx => by have := (hbd _ (hrM k hk)).1; have := (hXb _ hx).2.1; omega)
    have hz8 : V7.heap.size ≤ V8.heap.size := by rw [l.size]; exact Nat.le_refl _
    clear ht hp l hi7 hX7 CM
    have hneg : decide ((1 : Int) + (xs.length : Int) < 0) = false := by simp; omega
    refine t_op hT rfl (by rfl) (by first | decide | assumption) (by first | rfl | (rw [hro]; rfl)) (fun w₁ hR K hK => ?_)
    obtain ⟨d, rfl⟩ := hR
    go_simp
    try (unfold stored; go_simp)
    try go_ints
    refine hK _ _ () (da_nil (listed_nil (by simp [go_sem, *])) (Nat.le_refl _)) ?_
    clear hK K
    try simp only [at_alloc, at_set, at_heap]
    refine la_strip hT ?_
    try walk_nrm
    repeat (first | refine t_seq hT ?_ | refine t_block hT ?_ | refine t_skip hT ?_ | refine t_inBlock hT ?_ | refine t_rend hT ?_ | refine t_exit hT rfl ?_)
    refine t_region hT [0, 1, 2, 3, 4, 5, 6, 7] rfl ?_
    refine t_op hT rfl (by rfl) (by first | decide | assumption) (by first | rfl | (rw [hro]; rfl)) (fun w₁ hR K hK => ?_)
    obtain ⟨d, rfl⟩ := hR
    go_simp
    try (unfold stored; go_simp)
    try go_ints
    refine hK _ _ () (da_nil (listed_nil (by simp [go_sem, *])) (Nat.le_refl _)) ?_
    clear hK K
    try simp only [at_alloc, at_set, at_heap]
    refine la_strip hT ?_
    try walk_nrm
    refine t_op hT rfl (by rfl) (by first | decide | assumption) (by first | rfl | (rw [hro]; rfl)) (fun w₁ hR K hK => ?_)
    obtain ⟨d, rfl⟩ := hR
    go_simp
    try (unfold stored; go_simp)
    try go_ints
    refine hK _ _ () (da_nil (listed_nil (by simp [go_sem, *])) (Nat.le_refl _)) ?_
    clear hK K
    try simp only [at_alloc, at_set, at_heap]
    refine la_strip hT ?_
    try walk_nrm
    refine t_op hT rfl (by rfl) (by first | decide | assumption) (by first | rfl | (rw [hro]; rfl)) (fun w₁ hR K hK => ?_)
    obtain ⟨d, rfl⟩ := hR
    go_simp
    try (unfold stored; go_simp)
    try go_ints
    refine hK _ _ () (da_nil (listed_nil (by simp [go_sem, *])) (Nat.le_refl _)) ?_
    clear hK K
    try simp only [at_alloc, at_set, at_heap]
    refine la_strip hT ?_
    try walk_nrm
    refine t_op hT rfl (by rfl) (by first | decide | assumption) (by first | rfl | (rw [hro]; rfl)) (fun w₁ hR K hK => ?_)
    obtain ⟨d, rfl⟩ := hR
    go_simp
    try (unfold stored; go_simp)
    try go_ints
    refine hK _ _ () (da_nil (listed_nil (by simp [go_sem, *])) (Nat.le_refl _)) ?_
    clear hK K
    try simp only [at_alloc, at_set, at_heap]
    refine la_strip hT ?_
    try walk_nrm
    refine t_op hT rfl (by rfl) (by first | decide | assumption) (by first | rfl | (rw [hro]; rfl)) (fun w₁ hR K hK => ?_)
    obtain ⟨d, rfl⟩ := hR
    go_simp
    try (unfold stored; go_simp)
    try go_ints
    refine hK _ _ () (da_nil (listed_nil (by simp [go_sem, *])) (Nat.le_refl _)) ?_
    clear hK K
    try simp only [at_alloc, at_set, at_heap]
    refine la_strip hT ?_
    try walk_nrm
    refine t_call hT rfl (by rfl) (by first | decide | assumption) (by first | rfl | (rw [hro]; rfl)) rfl Try.func12 (by rfl) rfl (by walk_nrm; exact CQ.out _ _ _ _ _ _ hi8.pr hrw.rd hB.rd) ?_
    rintro _ ⟨⟩ W9 ⟨ht, V9, hp, rfl, l⟩
    try walk_nrm
    have hi9 := hi8.ltr l hp ht
    replace hA := hA.ltr hi8.pr l
    replace hB := hB.ltr hi8.pr l
    replace hrw : RowsAt V9 ad r e L := hrw.of (fun q hq h0 => l.block _ (by have := (hbd _ (hrA q hq h0)).2.1; omega) (hbd _ (hrA q hq h0)).2.2) (fun k hk => l.block _ (by have := (hbd _ (hrM k hk)).2.1; omega) (hbd _ (hrM k hk)).2.2)
    clear ht hp l hi8
    refine t_op hT rfl (by rfl) (by first | decide | assumption) (by first | rfl | (rw [hro]; rfl)) (fun w₁ hR K hK => ?_)
    obtain ⟨d, rfl⟩ := hR
    go_simp
    try (unfold stored; go_simp)
    try go_ints
    refine hK _ _ () (da_nil (listed_nil (by simp [go_sem, *])) (Nat.le_refl _)) ?_
    clear hK K
    try simp only [at_alloc, at_set, at_heap]
    refine la_strip hT ?_
    try walk_nrm
    refine t_op hT rfl (by rfl) (by first | decide | assumption) (by first | rfl | (rw [hro]; rfl)) (fun w₁ hR K hK => ?_)
    obtain ⟨d, rfl⟩ := hR
    go_simp
    try (unfold stored; go_simp)
    try go_ints
    refine hK _ _ () (da_nil (listed_nil (by simp [go_sem, *])) (Nat.le_refl _)) ?_
    clear hK K
    try simp only [at_alloc, at_set, at_heap]
    refine la_strip hT ?_
    try walk_nrm
    repeat (first | refine t_seq hT ?_ | refine t_block hT ?_ | refine t_skip hT ?_ | refine t_inBlock hT ?_ | refine t_rend hT ?_ | refine t_exit hT rfl ?_)
    refine t_cond hT (t := _) rfl ?_
    simp only [if_true, if_false, reduceIte, Bool.false_eq_true, *]
    repeat (first | refine t_seq hT ?_ | refine t_block hT ?_ | refine t_skip hT ?_ | refine t_inBlock hT ?_ | refine t_rend hT ?_ | refine t_exit hT rfl ?_)
    refine t_region hT [0] rfl ?_
    refine t_op hT rfl (by rfl) (by first | decide | assumption) (by first | rfl | (rw [hro]; rfl)) (fun w₁ hR K hK => ?_)
    obtain ⟨d, rfl⟩ := hR
    go_simp
    try (unfold stored; go_simp)
    try go_ints
    refine hK _ _ () (da_nil (listed_nil (by simp [go_sem, *])) (Nat.le_refl _)) ?_
    clear hK K
    try simp only [at_alloc, at_set, at_heap]
    refine la_strip hT ?_
    try walk_nrm
    repeat (first | refine t_seq hT ?_ | refine t_block hT ?_ | refine t_skip hT ?_ | refine t_inBlock hT ?_ | refine t_rend hT ?_ | refine t_exit hT rfl ?_)
    refine t_region hT [0, 1, 2, 3] rfl ?_
    refine t_op hT rfl (by rfl) (by first | decide | assumption) (by first | rfl | (rw [hro]; rfl)) (fun w₁ hR K hK => ?_)
    obtain ⟨d, rfl⟩ := hR
    go_simp
    try (unfold stored; go_simp)
    try go_ints
    refine hK _ _ () (da_nil (listed_nil (by simp [go_sem, *])) (Nat.le_refl _)) ?_
    clear hK K
    try simp only [at_alloc, at_set, at_heap]
    refine la_strip hT ?_
    try walk_nrm
    refine t_op hT rfl (by rfl) (by first | decide | assumption) (by first | rfl | (rw [hro]; rfl)) (fun w₁ hR K hK => ?_)
    obtain ⟨d, rfl⟩ := hR
    go_simp
    try (unfold stored; go_simp)
    try go_ints
    refine hK _ _ () (da_nil (listed_nil (by simp [go_sem, *])) (Nat.le_refl _)) ?_
    clear hK K
    try simp only [at_alloc, at_set, at_heap]
    refine la_strip hT ?_
    try walk_nrm
    refine t_call hT rfl (by rfl) (by first | decide | assumption) (by first | rfl | (rw [hro]; rfl)) rfl Try.func15 (by rfl) rfl (by walk_nrm; exact CMM.out _ _ _ _ _ _ hi9.pr hrw) ?_
    rintro _ ⟨⟩ W10 ⟨ht, V10, hp, rfl, hH, l⟩
    try walk_nrm
    have hi10 := hi9.tch l (fun b hb => by obtain ⟨k, hk, rfl⟩ := hb; have := (hbd _ (hrM k hk)).1; have := hi2s.out; omega) hp ht
    replace hA := hA.same (v' := V10) fun b hb => l.block b fun hx => by obtain ⟨k, hk, rfl⟩ := hx; have := (hbd _ (hrM k hk)).1; have := hi2s.out; omega
    replace hB := hB.same (v' := V10) fun b hb => l.block b fun hx => by obtain ⟨k, hk, rfl⟩ := hx; have := (hbd _ (hrM k hk)).1; have := hi2s.out; omega
    clear ht hp l hi9 hrw hrM hrA hbd hXb CMM
    have hneg2 : decide ((1 : Int) + ((L.length * n : Nat) : Int) < 0) = false := by simp; omega
    generalize (1 : Int) + ((L.length * n : Nat) : Int) = m at *
    have hmm : (m != m) = false := by simp
    refine t_op hT rfl (by rfl) (by first | decide | assumption) (by first | rfl | (rw [hro]; rfl)) (fun w₁ hR K hK => ?_)
    obtain ⟨d, rfl⟩ := hR
    go_simp
    try (unfold stored; go_simp)
    try go_ints
    refine hK _ _ () (da_nil (listed_nil (by simp [go_sem, *])) (Nat.le_refl _)) ?_
    clear hK K
    try simp only [at_alloc, at_set, at_heap]
    refine la_strip hT ?_
    try walk_nrm
    repeat (first | refine t_seq hT ?_ | refine t_block hT ?_ | refine t_skip hT ?_ | refine t_inBlock hT ?_ | refine t_rend hT ?_ | refine t_exit hT rfl ?_)
    refine t_region hT [0] rfl ?_
    refine t_op hT rfl (by rfl) (by first | decide | assumption) (by first | rfl | (rw [hro]; rfl)) (fun w₁ hR K hK => ?_)
    obtain ⟨d, rfl⟩ := hR
    go_simp
    try (unfold stored; go_simp)
    try go_ints
    refine hK _ _ () (da_nil (listed_nil (by simp [go_sem, *])) (Nat.le_refl _)) ?_
    clear hK K
    try simp only [at_alloc, at_set, at_heap]
    refine la_strip hT ?_
    try walk_nrm
    repeat (first | refine t_seq hT ?_ | refine t_block hT ?_ | refine t_skip hT ?_ | refine t_inBlock hT ?_ | refine t_rend hT ?_ | refine t_exit hT rfl ?_)
    refine t_region hT [0, 1, 2, 3] rfl ?_
    refine t_op hT rfl (by rfl) (by first | decide | assumption) (by first | rfl | (rw [hro]; rfl)) (fun w₁ hR K hK => ?_)
    obtain ⟨d, rfl⟩ := hR
    go_simp
    try (unfold stored; go_simp)
    try go_ints
    refine hK _ _ () (da_nil (listed_nil (by simp [go_sem, *])) (Nat.le_refl _)) ?_
    clear hK K
    try simp only [at_alloc, at_set, at_heap]
    refine la_strip hT ?_
    try walk_nrm
    refine t_op hT rfl (by rfl) (by first | decide | assumption) (by first | rfl | (rw [hro]; rfl)) (fun w₁ hR K hK => ?_)
    obtain ⟨d, rfl⟩ := hR
    go_simp
    try (unfold stored; go_simp)
    try go_ints
    refine hK _ _ () (da_nil (listed_nil (by simp [go_sem, *])) (Nat.le_refl _)) ?_
    clear hK K
    try simp only [at_alloc, at_set, at_heap]
    refine la_strip hT ?_
    try walk_nrm
    refine t_call hT rfl (by rfl) (by first | decide | assumption) (by first | rfl | (rw [hro]; rfl)) rfl Try.func16 (by rfl) rfl (by walk_nrm; exact CH.out _ _ _ _ hi10.pr hH) ?_
    rintro _ ⟨⟩ W11 ⟨ht, V11, hp, rfl, l⟩
    try walk_nrm
    have hi11 := hi10.ltr l hp ht
    replace hA := hA.ltr hi10.pr l
    replace hB := hB.ltr hi10.pr l
    replace hH := hH.ltr hi10.pr l
    clear ht hp l hi10
    refine t_op hT rfl (by rfl) (by first | decide | assumption) (by first | rfl | (rw [hro]; rfl)) (fun w₁ hR K hK => ?_)
    obtain ⟨d, rfl⟩ := hR
    go_simp
    try (unfold stored; go_simp)
    try go_ints
    refine hK _ _ () (da_nil (listed_nil (by simp [go_sem, *])) (Nat.le_refl _)) ?_
    clear hK K
    try simp only [at_alloc, at_set, at_heap]
    refine la_strip hT ?_
    try walk_nrm
    repeat (first | refine t_seq hT ?_ | refine t_block hT ?_ | refine t_skip hT ?_ | refine t_inBlock hT ?_ | refine t_rend hT ?_ | refine t_exit hT rfl ?_)
    refine t_region hT [0, 1] rfl ?_
    refine t_op hT rfl (by rfl) (by first | decide | assumption) (by first | rfl | (rw [hro]; rfl)) (fun w₁ hR K hK => ?_)
    obtain ⟨d, rfl⟩ := hR
    go_simp
    try (unfold stored; go_simp)
    try go_ints
    refine hK _ _ () (da_nil (listed_nil (by simp [go_sem, *])) (Nat.le_refl _)) ?_
    clear hK K
    try simp only [at_alloc, at_set, at_heap]
    refine la_strip hT ?_
    try walk_nrm
    refine t_op hT rfl (by rfl) (by first | decide | assumption) (by first | rfl | (rw [hro]; rfl)) (fun w₁ hR K hK => ?_)
    obtain ⟨d, rfl⟩ := hR
    go_simp
    try (unfold stored; go_simp)
    try go_ints
    refine hK _ _ () (da_nil (listed_nil (by simp [go_sem, *])) (Nat.le_refl _)) ?_
    clear hK K
    try simp only [at_alloc, at_set, at_heap]
    refine la_strip hT ?_
    try walk_nrm
    repeat (first | refine t_seq hT ?_ | refine t_block hT ?_ | refine t_skip hT ?_ | refine t_inBlock hT ?_ | refine t_rend hT ?_ | refine t_exit hT rfl ?_)
    refine t_cond hT (t := _) rfl ?_
    simp only [if_true, if_false, reduceIte, Bool.false_eq_true, *]
    repeat (first | refine t_seq hT ?_ | refine t_block hT ?_ | refine t_skip hT ?_ | refine t_inBlock hT ?_ | refine t_rend hT ?_ | refine t_exit hT rfl ?_)
    refine t_region hT [0, 1, 2] rfl ?_
    refine t_op hT rfl (by rfl) (by first | decide | assumption) (by first | rfl | (rw [hro]; rfl)) (fun w₁ hR K hK => ?_)
    obtain ⟨d, rfl⟩ := hR
    go_simp
    try (unfold stored; go_simp)
    try go_ints
    refine hK _ _ () (da_nil (listed_nil (by simp [go_sem, *])) (Nat.le_refl _)) ?_
    clear hK K
    try simp only [at_alloc, at_set, at_heap]
    refine la_strip hT ?_
    try walk_nrm
    refine t_op hT rfl (by rfl) (by first | decide | assumption) (by first | rfl | (rw [hro]; rfl)) (fun w₁ hR K hK => ?_)
    obtain ⟨d, rfl⟩ := hR
    go_simp
    try (unfold stored; go_simp)
    try go_ints
    refine hK _ _ () (da_nil (listed_nil (by simp [go_sem, *])) (Nat.le_refl _)) ?_
    clear hK K
    try simp only [at_alloc, at_set, at_heap]
    refine la_strip hT ?_
    try walk_nrm
    refine t_op hT rfl (by rfl) (by first | decide | assumption) (by first | rfl | (rw [hro]; rfl)) (fun w₁ hR K hK => ?_)
    obtain ⟨d, rfl⟩ := hR
    go_simp
    try (unfold stored; go_simp)
    try go_ints
    refine hK _ _ () (da_nil (listed_nil (by simp [go_sem, *])) (Nat.le_refl _)) ?_
    clear hK K
    try simp only [at_alloc, at_set, at_heap]
    refine la_strip hT ?_
    try walk_nrm
    repeat (first | refine t_seq hT ?_ | refine t_block hT ?_ | refine t_skip hT ?_ | refine t_inBlock hT ?_ | refine t_rend hT ?_ | refine t_exit hT rfl ?_)
    refine t_cond hT (t := _) rfl ?_
    simp only [if_true, if_false, reduceIte, Bool.false_eq_true, *]
    repeat (first | refine t_seq hT ?_ | refine t_block hT ?_ | refine t_skip hT ?_ | refine t_inBlock hT ?_ | refine t_rend hT ?_ | refine t_exit hT rfl ?_)
    refine t_region hT [0, 1, 2, 3] rfl ?_
    refine t_op hT rfl (by rfl) (by first | decide | assumption) (by first | rfl | (rw [hro]; rfl)) (fun w₁ hR K hK => ?_)
    obtain ⟨d, rfl⟩ := hR
    go_simp
    try (unfold stored; go_simp)
    try go_ints
    refine hK _ _ () (da_nil (listed_nil (by simp [go_sem, *])) (Nat.le_refl _)) ?_
    clear hK K
    try simp only [at_alloc, at_set, at_heap]
    refine la_strip hT ?_
    try walk_nrm
    refine t_call hT rfl (by rfl) (by first | decide | assumption) (by first | rfl | (rw [hro]; rfl)) rfl Try.func10 (by rfl) rfl (by walk_nrm; exact CT.out _ _ hi11.pr hA.rd) ?_
    rintro _ ⟨⟩ W12 ⟨ht, V12, hp, ⟨⟨⟨Z, cZ⟩, rfl, hZ⟩, l⟩⟩
    try walk_nrm
    have hi12 := hi11.ltr l hp ht
    replace hB := hB.ltr hi11.pr l
    replace hH := hH.ltr hi11.pr l
    clear ht hp l hi11 hA
    refine t_enter hT rfl (by rfl) (by first | decide | assumption) (by first | rfl | (rw [hro]; rfl)) rfl Try.func11 (by rfl) rfl ?_
    walk_nrm
    refine hRO2.out _ _ _ _ _ _ hi12 hZ.rd hx7 (fun Sb2 M2 V13 W13 ad2 cp2 hsub2 hi13 l13 hG2 => ?_)
    replace hB := hB.ltr hi12.pr l13
    replace hH := hH.ltr hi12.pr l13
    have hR2 := hG2.rd
    clear hT hRO2 hi12 l13 hG2 hZ hsub2 CT CE CQ CH
    have hT := clo_la (P := Try.prog) (Sb := Sb2) (Post := Post)
    have hret3 := hid (hret.out Sb2)
    have CQ := hid (CQ'.out Sb2)
    have CH := hid (CH'.out Sb2)
    generalize LA Try.prog Sb2 Post = T3 at hT hret3 CQ CH ⊢
    rw [Frame.finish_atR]
    try walk_nrm
    refine t_op hT rfl (by rfl) (by first | decide | assumption) (by first | rfl | (rw [hro]; rfl)) (fun w₁ hR K hK => ?_)
    obtain ⟨d, rfl⟩ := hR
    go_simp
    try (unfold stored; go_simp)
    try go_ints
    refine hK _ _ () (da_nil (listed_nil (by simp [go_sem, *])) (Nat.le_refl _)) ?_
    clear hK K
    try simp only [at_alloc, at_set, at_heap]
    refine la_strip hT ?_
    try walk_nrm
    repeat (first | refine t_seq hT ?_ | refine t_block hT ?_ | refine t_skip hT ?_ | refine t_inBlock hT ?_ | refine t_rend hT ?_ | refine t_exit hT rfl ?_)
    refine t_region hT [0, 1, 2, 3] rfl ?_
    refine t_op hT rfl (by rfl) (by first | decide | assumption) (by first | rfl | (rw [hro]; rfl)) (fun w₁ hR K hK => ?_)
    obtain ⟨d, rfl⟩ := hR
    go_simp
    try (unfold stored; go_simp)
    try go_ints
    refine hK _ _ () (da_nil (listed_nil (by simp [go_sem, *])) (Nat.le_refl _)) ?_
    clear hK K
    try simp only [at_alloc, at_set, at_heap]
    refine la_strip hT ?_
    try walk_nrm
    refine t_op hT rfl (by rfl) (by first | decide | assumption) (by first | rfl | (rw [hro]; rfl)) (fun w₁ hR K hK => ?_)
    obtain ⟨d, rfl⟩ := hR
    go_simp
    try (unfold stored; go_simp)
    try go_ints
    refine hK _ _ () (da_nil (listed_nil (by simp [go_sem, *])) (Nat.le_refl _)) ?_
    clear hK K
    try simp only [at_alloc, at_set, at_heap]
    refine la_strip hT ?_
    try walk_nrm
    refine t_call hT rfl (by rfl) (by first | decide | assumption) (by first | rfl | (rw [hro]; rfl)) rfl Try.func12 (by rfl) rfl (by walk_nrm; exact CQ.out _ _ _ _ _ _ hi13.pr hR2 hB.rd) ?_
    rintro _ ⟨⟩ W14 ⟨ht, V14, hp, rfl, l⟩
    try walk_nrm
    have hi14 := hi13.ltr l hp ht
    replace hH := hH.ltr hi13.pr l
    clear ht hp l hi13 hB hR2
    refine t_op hT rfl (by rfl) (by first | decide | assumption) (by first | rfl | (rw [hro]; rfl)) (fun w₁ hR K hK => ?_)
    obtain ⟨d, rfl⟩ := hR
    go_simp
    try (unfold stored; go_simp)
    try go_ints
    refine hK _ _ () (da_nil (listed_nil (by simp [go_sem, *])) (Nat.le_refl _)) ?_
    clear hK K
    try simp only [at_alloc, at_set, at_heap]
    refine la_strip hT ?_
    try walk_nrm
    repeat (first | refine t_seq hT ?_ | refine t_block hT ?_ | refine t_skip hT ?_ | refine t_inBlock hT ?_ | refine t_rend hT ?_ | refine t_exit hT rfl ?_)
    refine t_cond hT (t := _) rfl ?_
    simp only [if_true, if_false, reduceIte, Bool.false_eq_true, *]
    repeat (first | refine t_seq hT ?_ | refine t_block hT ?_ | refine t_skip hT ?_ | refine t_inBlock hT ?_ | refine t_rend hT ?_ | refine t_exit hT rfl ?_)
    refine t_region hT [0] rfl ?_
    refine t_op hT rfl (by rfl) (by first | decide | assumption) (by first | rfl | (rw [hro]; rfl)) (fun w₁ hR K hK => ?_)
    obtain ⟨d, rfl⟩ := hR
    go_simp
    try (unfold stored; go_simp)
    try go_ints
    refine hK _ _ () (da_nil (listed_nil (by simp [go_sem, *])) (Nat.le_refl _)) ?_
    clear hK K
    try simp only [at_alloc, at_set, at_heap]
    refine la_strip hT ?_
    try walk_nrm
    repeat (first | refine t_seq hT ?_ | refine t_block hT ?_ | refine t_skip hT ?_ | refine t_inBlock hT ?_ | refine t_rend hT ?_ | refine t_exit hT rfl ?_)
    refine t_region hT [0, 1, 2, 3] rfl ?_
    refine t_op hT rfl (by rfl) (by first | decide | assumption) (by first | rfl | (rw [hro]; rfl)) (fun w₁ hR K hK => ?_)
    obtain ⟨d, rfl⟩ := hR
    go_simp
    try (unfold stored; go_simp)
    try go_ints
    refine hK _ _ () (da_nil (listed_nil (by simp [go_sem, *])) (Nat.le_refl _)) ?_
    clear hK K
    try simp only [at_alloc, at_set, at_heap]
    refine la_strip hT ?_
    try walk_nrm
    refine t_op hT rfl (by rfl) (by first | decide | assumption) (by first | rfl | (rw [hro]; rfl)) (fun w₁ hR K hK => ?_)
    obtain ⟨d, rfl⟩ := hR
    go_simp
    try (unfold stored; go_simp)
    try go_ints
    refine hK _ _ () (da_nil (listed_nil (by simp [go_sem, *])) (Nat.le_refl _)) ?_
    clear hK K
    try simp only [at_alloc, at_set, at_heap]
    refine la_strip hT ?_
    try walk_nrm
    refine t_call hT rfl (by rfl) (by first | decide | assumption) (by first | rfl | (rw [hro]; rfl)) rfl Try.func16 (by rfl) rfl (by walk_nrm; exact CH.out _ _ _ _ hi14.pr hH) ?_
    rintro _ ⟨⟩ W15 ⟨ht, V15, hp, rfl, l⟩
    try walk_nrm
    have hi15 := hi14.ltr l hp ht
    clear ht hp l hi14 hH
    refine t_op hT rfl (by rfl) (by first | decide | assumption) (by first | rfl | (rw [hro]; rfl)) (fun w₁ hR K hK => ?_)
    obtain ⟨d, rfl⟩ := hR
    go_simp
    try (unfold stored; go_simp)
    try go_ints
    refine hK _ _ () (da_nil (listed_nil (by simp [go_sem, *])) (Nat.le_refl _)) ?_
    clear hK K
    try simp only [at_alloc, at_set, at_heap]
    refine la_strip hT ?_
    try walk_nrm
    repeat (first | refine t_seq hT ?_ | refine t_block hT ?_ | refine t_skip hT ?_ | refine t_inBlock hT ?_ | refine t_rend hT ?_ | refine t_exit hT rfl ?_)
    refine t_region hT [0, 1] rfl ?_
    refine t_op hT rfl (by rfl) (by first | decide | assumption) (by first | rfl | (rw [hro]; rfl)) (fun w₁ hR K hK => ?_)
    obtain ⟨d, rfl⟩ := hR
    go_simp
    try (unfold stored; go_simp)
    try go_ints
    refine hK _ _ () (da_nil (listed_nil (by simp [go_sem, *])) (Nat.le_refl _)) ?_
    clear hK K
    try simp only [at_alloc, at_set, at_heap]
    refine la_strip hT ?_
    try walk_nrm
    refine t_op hT rfl (by rfl) (by first | decide | assumption) (by first | rfl | (rw [hro]; rfl)) (fun w₁ hR K hK => ?_)
    obtain ⟨d, rfl⟩ := hR
    go_simp
    try (unfold stored; go_simp)
    try go_ints
    refine hK _ _ () (da_nil (listed_nil (by simp [go_sem, *])) (Nat.le_refl _)) ?_
    clear hK K
    try simp only [at_alloc, at_set, at_heap]
    refine la_strip hT ?_
    try walk_nrm
    repeat (first | refine t_seq hT ?_ | refine t_block hT ?_ | refine t_skip hT ?_ | refine t_inBlock hT ?_ | refine t_rend hT ?_ | refine t_exit hT rfl ?_)
    refine t_cond hT (t := _) rfl ?_
    simp only [if_true, if_false, reduceIte, Bool.false_eq_true, *]
    repeat (first | refine t_seq hT ?_ | refine t_block hT ?_ | refine t_skip hT ?_ | refine t_inBlock hT ?_ | refine t_rend hT ?_ | refine t_exit hT rfl ?_)
    refine t_region hT [0, 1, 2] rfl ?_
    refine t_op hT rfl (by rfl) (by first | decide | assumption) (by first | rfl | (rw [hro]; rfl)) (fun w₁ hR K hK => ?_)
    obtain ⟨d, rfl⟩ := hR
    go_simp
    try (unfold stored; go_simp)
    try go_ints
    refine hK _ _ () (da_nil (listed_nil (by simp [go_sem, *])) (Nat.le_refl _)) ?_
    clear hK K
    try simp only [at_alloc, at_set, at_heap]
    refine la_strip hT ?_
    try walk_nrm
    refine t_op hT rfl (by rfl) (by first | decide | assumption) (by first | rfl | (rw [hro]; rfl)) (fun w₁ hR K hK => ?_)
    obtain ⟨d, rfl⟩ := hR
    go_simp
    try (unfold stored; go_simp)
    try go_ints
    refine hK _ _ () (da_nil (listed_nil (by simp [go_sem, *])) (Nat.le_refl _)) ?_
    clear hK K
    try simp only [at_alloc, at_set, at_heap]
    refine la_strip hT ?_
    try walk_nrm
    refine t_op hT rfl (by rfl) (by first | decide | assumption) (by first | rfl | (rw [hro]; rfl)) (fun w₁ hR K hK => ?_)
    obtain ⟨d, rfl⟩ := hR
    go_simp
    try (unfold stored; go_simp)
    try go_ints
    refine hK _ _ () (da_nil (listed_nil (by simp [go_sem, *])) (Nat.le_refl _)) ?_
    clear hK K
    try simp only [at_alloc, at_set, at_heap]
    refine la_strip hT ?_
    try walk_nrm
    repeat (first | refine t_seq hT ?_ | refine t_block hT ?_ | refine t_skip hT ?_ | refine t_inBlock hT ?_ | refine t_rend hT ?_ | refine t_exit hT rfl ?_)
    refine t_cond hT (t := _) rfl ?_
    simp only [if_true, if_false, reduceIte, Bool.false_eq_true, *]
    repeat (first | refine t_seq hT ?_ | refine t_block hT ?_ | refine t_skip hT ?_ | refine t_inBlock hT ?_ | refine t_rend hT ?_ | refine t_exit hT rfl ?_)
    refine t_region hT [0] rfl ?_
    refine t_op hT rfl (by rfl) (by first | decide | assumption) (by first | rfl | (rw [hro]; rfl)) (fun w₁ hR K hK => ?_)
    obtain ⟨d, rfl⟩ := hR
    go_simp
    try (unfold stored; go_simp)
    try go_ints
    refine hK _ _ () (da_nil (listed_nil (by simp [go_sem, *])) (Nat.le_refl _)) ?_
    clear hK K
    try simp only [at_alloc, at_set, at_heap]
    refine la_strip hT ?_
    try walk_nrm
    refine t_rend hT ?_
    exact hret3.out _ _ _ _ rfl rfl hi15
end
end Go.Proofs.Ytkbfcaaihellfaa
