/- Steps on the way to the law; each part says what it proves. -/
import Derived.Test.YtkbfcaaihellfaaWA1

set_option linter.unusedSimpArgs false

/- The law FnAllWith: its run, on every schedule. -/
namespace Go.Proofs.Ytkbfcaaihellfaa
open Go.Conc Go.ConcN Go.ConcN.Gen Go.RowKit Go.Conc.Lib Go.ConcR.Gen
open Go.ConcR (KK wgBlock WgAt stA smA rd wr mk Payload Aside2 DC0)
set_option linter.unusedVariables false
set_option linter.unusedSectionVars false

/-- what a round of the law's loop knows -/
def RG2 (A : Option Addr) (xs : List Int) (ad : Addr) (L : List (List Int)) (k : Nat) (D : Option Addr) (n d : Nat) (g : List Int) (v : World) : Prop :=
  (RdRR v (some ad) L ∧ RdA v A xs) ∧ v.cell? (ad.add k) = some (.slice D n d) ∧ RdA v D g
theorem stb_rg2 {Sb : Nat → Prop} {A : Option Addr} {xs : List Int} {ad : Addr} {L : List (List Int)} {k : Nat} {D : Option Addr} {n d : Nat} {g : List Int} : Stb Sb (RG2 A xs ad L k D n d g) :=
  (stb_rr.and stb_rd).and (stb_cell.and stb_rd)
def hasB (L : List (List Int)) (x : List Int) : Bool := L.any fun g => decide (g = x)
theorem has_step {L : List (List Int)} {k : Nat} (h : k < L.length) (x : List Int) : hasB (L.take (k + 1)) x = (hasB (L.take k) x || decide (gl L k = x)) := by
  unfold hasB
  rw [takeS h, List.any_append]
  simp
theorem has_mem {L : List (List Int)} {x : List Int} (h : x ∈ L) : hasB L x = true := List.any_eq_true.2 ⟨x, h, by simp⟩
theorem run_eqlen (n : Nat) (h : 0 < n) : decide ((n : Int) = 0) = false := by simp; omega
section
variable {a : Option Addr} {len cap : Nat} {zs : List Int} {w : World}
set_option maxHeartbeats 8000000 in
theorem FnAllWith_la (h : RowIn .u8 w a len cap zs) : LA Try.prog (fun _ => False) (fun v w' => v = .bool true ∧ Below w.heap.size w w') () (G (Frame.enter Try.prog 5 #[.slice a len cap] .normal) []) w := by
  have hcap := h.cap
  unfold maxLen at hcap
  obtain ⟨Post, hPost⟩ : ∃ Post : Value → World → Prop, Post = fun v w' => v = .bool true ∧ Below w.heap.size w w' := ⟨_, rfl⟩
  have done := hid (show ∀ w', Below w.heap.size w w' → Post (.bool true) w' from fun w' hb => by rw [hPost]; exact ⟨rfl, hb⟩)
  rw [← hPost]
  clear hPost
  rw [enter_atR _ Try.func5 rfl]
  have hk : (base 5).kind ≠ .early := base_kind _
  have hro : (base 5).roundOf = none := rfl
  have hret := hid (fun (Sb : Nat → Prop) (v' : World) (a : Act) (k : List Item) (w' : World) (hd : a.defers = []) (hv : a.tmps.getD 2 undef = .bool true) (hi : Inv Sb w v' w') => la_ret (Sb := Sb) (Post := Post) (k := k) hd Try.func5 rfl (by kernel_rfl) hv (fun d => done.out _ (hi.at d).below))
  have hT := clo_la (P := Try.prog) (Sb := fun _ => False) (Post := Post)
  have hi0 := Inv.start w
  have hRO := hid (fun (v w1 : World) (A : Option Addr) (c : Nat) (xs : List Int) (fr : Frame) (cs : List Frame) (hi : Inv (fun _ => False) w v w1) => allWith_i (Post := Post) (A := A) (c := c) (xs := xs) (fr := fr) (cs := cs) hi)
  have CD := hid (fun (hp : PR (fun _ => False) w w) => drawAllWith_la (Post := Post) hp h)
  have hret0 := hid (hret.out (fun _ => False))
  unfold CLA at CD
  generalize hT' : LA Try.prog (fun _ => False) Post = T at hT hret0 hRO CD ⊢
  simp only [Try.ntmps5, List.size_toArray, List.length_cons, List.length_nil, Nat.reduceAdd, Nat.reduceSub, Array.replicate_succ, Array.replicate_zero, List.push_toArray, List.append_toArray, List.nil_append, List.cons_append]
  by_cases hbig : 1048576 < len
  · have hd : decide ((1048576 : Int) < (len : Int)) = true := by simp; omega
    repeat (first | refine t_seq hT ?_ | refine t_block hT ?_ | refine t_skip hT ?_ | refine t_inBlock hT ?_ | refine t_rend hT ?_ | refine t_exit hT rfl ?_)
    refine t_region hT [0] rfl ?_
    refine t_op hT rfl (by rfl) (by first | decide | assumption) (by first | rfl | (rw [hro]; rfl)) (fun w₁ hR K hK => ?_)
    obtain ⟨d, rfl⟩ := hR
    go_simp
    try (unfold stored; go_simp)
    try go_ints
    refine hK _ _ () (da_nil (listed_nil (by simp [go_sem, *])) (Nat.le_refl _)) ?_
    clear hK K
    try simp only [at_alloc, at_set, at_heap]
    refine la_strip hT ?_
    try walk_nrm
    repeat (first | refine t_seq hT ?_ | refine t_block hT ?_ | refine t_skip hT ?_ | refine t_inBlock hT ?_ | refine t_rend hT ?_ | refine t_exit hT rfl ?_)
    refine t_region hT [0, 1, 2] rfl ?_
    refine t_op hT rfl (by rfl) (by first | decide | assumption) (by first | rfl | (rw [hro]; rfl)) (fun w₁ hR K hK => ?_)
    obtain ⟨d, rfl⟩ := hR
    go_simp
    try (unfold stored; go_simp)
    try go_ints
    refine hK _ _ () (da_nil (listed_nil (by simp [go_sem, *])) (Nat.le_refl _)) ?_
    clear hK K
    try simp only [at_alloc, at_set, at_heap]
    refine la_strip hT ?_
    try walk_nrm
    refine t_op hT rfl (by rfl) (by first | decide | assumption) (by first | rfl | (rw [hro]; rfl)) (fun w₁ hR K hK => ?_)
    obtain ⟨d, rfl⟩ := hR
    go_simp
    try (unfold stored; go_simp)
    try go_ints
    refine hK _ _ () (da_nil (listed_nil (by simp [go_sem, *])) (Nat.le_refl _)) ?_
    clear hK K
    try simp only [at_alloc, at_set, at_heap]
    refine la_strip hT ?_
    try walk_nrm
    refine t_op hT rfl (by rfl) (by first | decide | assumption) (by first | rfl | (rw [hro]; rfl)) (fun w₁ hR K hK => ?_)
    obtain ⟨d, rfl⟩ := hR
    go_simp
    try (unfold stored; go_simp)
    try go_ints
    refine hK _ _ () (da_nil (listed_nil (by simp [go_sem, *])) (Nat.le_refl _)) ?_
    clear hK K
    try simp only [at_alloc, at_set, at_heap]
    refine la_strip hT ?_
    try walk_nrm
    repeat (first | refine t_seq hT ?_ | refine t_block hT ?_ | refine t_skip hT ?_ | refine t_inBlock hT ?_ | refine t_rend hT ?_ | refine t_exit hT rfl ?_)
    refine t_cond hT (t := _) rfl ?_
    simp only [if_true, if_false, reduceIte, Bool.false_eq_true, *]
    repeat (first | refine t_seq hT ?_ | refine t_block hT ?_ | refine t_skip hT ?_ | refine t_inBlock hT ?_ | refine t_rend hT ?_ | refine t_exit hT rfl ?_)
    refine t_region hT [0] rfl ?_
    refine t_op hT rfl (by rfl) (by first | decide | assumption) (by first | rfl | (rw [hro]; rfl)) (fun w₁ hR K hK => ?_)
    obtain ⟨d, rfl⟩ := hR
    go_simp
    try (unfold stored; go_simp)
    try go_ints
    refine hK _ _ () (da_nil (listed_nil (by simp [go_sem, *])) (Nat.le_refl _)) ?_
    clear hK K
    try simp only [at_alloc, at_set, at_heap]
    refine la_strip hT ?_
    try walk_nrm
    refine t_rend hT ?_
    exact hret0.out _ _ _ _ rfl rfl hi0
  · have hd : decide ((1048576 : Int) < (len : Int)) = false := by simp; omega
    repeat (first | refine t_seq hT ?_ | refine t_block hT ?_ | refine t_skip hT ?_ | refine t_inBlock hT ?_ | refine t_rend hT ?_ | refine t_exit hT rfl ?_)
    refine t_region hT [0] rfl ?_
    refine t_op hT rfl (by rfl) (by first | decide | assumption) (by first | rfl | (rw [hro]; rfl)) (fun w₁ hR K hK => ?_)
    obtain ⟨d, rfl⟩ := hR
    go_simp
    try (unfold stored; go_simp)
    try go_ints
    refine hK _ _ () (da_nil (listed_nil (by simp [go_sem, *])) (Nat.le_refl _)) ?_
    clear hK K
    try simp only [at_alloc, at_set, at_heap]
    refine la_strip hT ?_
    try walk_nrm
    repeat (first | refine t_seq hT ?_ | refine t_block hT ?_ | refine t_skip hT ?_ | refine t_inBlock hT ?_ | refine t_rend hT ?_ | refine t_exit hT rfl ?_)
    refine t_region hT [0, 1, 2] rfl ?_
    refine t_op hT rfl (by rfl) (by first | decide | assumption) (by first | rfl | (rw [hro]; rfl)) (fun w₁ hR K hK => ?_)
    obtain ⟨d, rfl⟩ := hR
    go_simp
    try (unfold stored; go_simp)
    try go_ints
    refine hK _ _ () (da_nil (listed_nil (by simp [go_sem, *])) (Nat.le_refl _)) ?_
    clear hK K
    try simp only [at_alloc, at_set, at_heap]
    refine la_strip hT ?_
    try walk_nrm
    refine t_op hT rfl (by rfl) (by first | decide | assumption) (by first | rfl | (rw [hro]; rfl)) (fun w₁ hR K hK => ?_)
    obtain ⟨d, rfl⟩ := hR
    go_simp
    try (unfold stored; go_simp)
    try go_ints
    refine hK _ _ () (da_nil (listed_nil (by simp [go_sem, *])) (Nat.le_refl _)) ?_
    clear hK K
    try simp only [at_alloc, at_set, at_heap]
    refine la_strip hT ?_
    try walk_nrm
    refine t_op hT rfl (by rfl) (by first | decide | assumption) (by first | rfl | (rw [hro]; rfl)) (fun w₁ hR K hK => ?_)
    obtain ⟨d, rfl⟩ := hR
    go_simp
    try (unfold stored; go_simp)
    try go_ints
    refine hK _ _ () (da_nil (listed_nil (by simp [go_sem, *])) (Nat.le_refl _)) ?_
    clear hK K
    try simp only [at_alloc, at_set, at_heap]
    refine la_strip hT ?_
    try walk_nrm
    repeat (first | refine t_seq hT ?_ | refine t_block hT ?_ | refine t_skip hT ?_ | refine t_inBlock hT ?_ | refine t_rend hT ?_ | refine t_exit hT rfl ?_)
    refine t_cond hT (t := _) rfl ?_
    simp only [if_true, if_false, reduceIte, Bool.false_eq_true, *]
    repeat (first | refine t_seq hT ?_ | refine t_block hT ?_ | refine t_skip hT ?_ | refine t_inBlock hT ?_ | refine t_rend hT ?_ | refine t_exit hT rfl ?_)
    refine t_region hT [0, 1, 2] rfl ?_
    refine t_op hT rfl (by rfl) (by first | decide | assumption) (by first | rfl | (rw [hro]; rfl)) (fun w₁ hR K hK => ?_)
    obtain ⟨d, rfl⟩ := hR
    go_simp
    try (unfold stored; go_simp)
    try go_ints
    refine hK _ _ () (da_nil (listed_nil (by simp [go_sem, *])) (Nat.le_refl _)) ?_
    clear hK K
    try simp only [at_alloc, at_set, at_heap]
    refine la_strip hT ?_
    try walk_nrm
    refine t_call hT rfl (by rfl) (by first | decide | assumption) (by first | rfl | (rw [hro]; rfl)) rfl Try.func19 (by rfl) rfl (by walk_nrm; exact CD.out hi0.pr (by omega)) ?_
    rintro _ ⟨⟩ W1 ⟨ht, V1, hp, ⟨xs, A, c, hx8, rfl, hA⟩, l⟩
    try walk_nrm
    have hi1 := hi0.ltr l hp ht
    clear ht hp l h CD hd
    have hx : xs.length ≤ 1048577 := by omega
    refine t_op hT rfl (by rfl) (by first | decide | assumption) (by first | rfl | (rw [hro]; rfl)) (fun w₁ hR K hK => ?_)
    obtain ⟨d, rfl⟩ := hR
    go_simp
    try (unfold stored; go_simp)
    try go_ints
    refine hK _ _ () (da_nil (listed_nil (by simp [go_sem, *])) (Nat.le_refl _)) ?_
    clear hK K
    try simp only [at_alloc, at_set, at_heap]
    refine la_strip hT ?_
    try walk_nrm
    repeat (first | refine t_seq hT ?_ | refine t_block hT ?_ | refine t_skip hT ?_ | refine t_inBlock hT ?_ | refine t_rend hT ?_ | refine t_exit hT rfl ?_)
    refine t_region hT [0, 1, 2] rfl ?_
    refine t_op hT rfl (by rfl) (by first | decide | assumption) (by first | rfl | (rw [hro]; rfl)) (fun w₁ hR K hK => ?_)
    obtain ⟨d, rfl⟩ := hR
    go_simp
    try (unfold stored; go_simp)
    try go_ints
    refine hK _ _ () (da_nil (listed_nil (by simp [go_sem, *])) (Nat.le_refl _)) ?_
    clear hK K
    try simp only [at_alloc, at_set, at_heap]
    refine la_strip hT ?_
    try walk_nrm
    refine t_enter hT rfl (by rfl) (by first | decide | assumption) (by first | rfl | (rw [hro]; rfl)) rfl Try.func18 (by rfl) rfl ?_
    walk_nrm
    refine hRO.out _ _ _ _ _ _ _ hi1 hA hx (fun Sb' M V4 W4 ad cp hsub hi4 l4 hG => ?_)
    replace hA := rdA_ltr hi1.pr hA l4
    clear hT hRO hi1 hret0
    have hT := clo_la (P := Try.prog) (Sb := Sb') (Post := Post)
    have hret1 := hid (hret.out Sb')
    have hrow := hid (fun g hg => withV_row (f := xs) (g := g) hg)
    have hlaw := hid (fun hne => with_law (f := xs) hne)
    have hLl : (withV xs).length ≤ 1000 := withV_len xs
    have hgl := hid (fun k (hk : k < (withV xs).length) => show (gl (withV xs) k).length ≤ 1048577 by have := (hrow.out _ (glmem hk)).2.1; have := (hrow.out _ (glmem hk)).2.2.1; omega)
    have CR := hid (fun (v w : World) (hp : PR Sb' v w) (hA : RdA v A xs) => sAllWith_la (Post := Post) (c := c) hp hA hx)
    have CM := hid (fun (v w : World) (B : Option Addr) (d : Nat) (hp : PR Sb' v w) (hA : RdRR v ad (withV xs)) (hB : RdRR v B (withV xs)) => sameRows_la (Post := Post) (c := cp) (d := d) hp hA hB (by omega) (by omega) hgl.out hgl.out)
    have CB := hid (fun (v w : World) (D E : Option Addr) (d' e' : Nat) (g g0 : List Int) (hg : g ∈ withV xs) (hg0 : g0 ∈ withV xs) (hp : PR Sb' v w) (hD : RdA v D g) (hE : RdA v E g0) => behindOf_la (Post := Post) (c := d') (d := e') hp hD hE (by have := (hrow.out g hg).2.1; have := (hrow.out g hg).2.2.1; omega) (by have := (hrow.out g0 hg0).2.1; have := (hrow.out g0 hg0).2.2.1; omega))
    have CI := hid (fun (v w : World) (D B : Option Addr) (d' e' : Nat) (g ys : List Int) (hg : g ∈ withV xs) (hy : ys.length ≤ 1048577) (hp : PR Sb' v w) (hD : RdA v D g) (hB : RdA v B ys) => sameInts_la (Post := Post) (c := d') (d := e') hp hD hB (by have := (hrow.out g hg).2.1; have := (hrow.out g hg).2.2.1; omega) hy)
    have CS := hid (fun (v w : World) (n : Int) (hp : PR Sb' v w) => sameOf_la (Post := Post) (n := n) hp)
    have CW := hid (fun (v w : World) (D : Option Addr) (d' : Nat) (g : List Int) (hg : g.length ≤ 1048577) (hp : PR Sb' v w) (hD : RdA v D g) (hA : RdA v A xs) => withOk_la (Post := Post) (c := d') (d := c) hp hD hA hg hx)
    have CA := hid (fun (v w : World) (hp : PR Sb' v w) => alive_la (Post := Post) hp)
    simp only [decide_true] at CM
    unfold CLA at CR CM CB CI CS CW CA
    have hRR := hG.rd
    clear hG l4 hsub M
    generalize withV xs = L at *
    generalize LA Try.prog Sb' Post = T2 at hT hret1 CR CM CB CI CS CW CA ⊢
    rw [Frame.finish_atR]
    try walk_nrm
    refine t_op hT rfl (by rfl) (by first | decide | assumption) (by first | rfl | (rw [hro]; rfl)) (fun w₁ hR K hK => ?_)
    obtain ⟨d, rfl⟩ := hR
    go_simp
    try (unfold stored; go_simp)
    try go_ints
    refine hK _ _ () (da_nil (listed_nil (by simp [go_sem, *])) (Nat.le_refl _)) ?_
    clear hK K
    try simp only [at_alloc, at_set, at_heap]
    refine la_strip hT ?_
    try walk_nrm
    repeat (first | refine t_seq hT ?_ | refine t_block hT ?_ | refine t_skip hT ?_ | refine t_inBlock hT ?_ | refine t_rend hT ?_ | refine t_exit hT rfl ?_)
    refine t_region hT [0, 1, 2, 3, 4] rfl ?_
    refine t_op hT rfl (by rfl) (by first | decide | assumption) (by first | rfl | (rw [hro]; rfl)) (fun w₁ hR K hK => ?_)
    obtain ⟨d, rfl⟩ := hR
    go_simp
    try (unfold stored; go_simp)
    try go_ints
    refine hK _ _ () (da_nil (listed_nil (by simp [go_sem, *])) (Nat.le_refl _)) ?_
    clear hK K
    try simp only [at_alloc, at_set, at_heap]
    refine la_strip hT ?_
    try walk_nrm
    refine t_op hT rfl (by rfl) (by first | decide | assumption) (by first | rfl | (rw [hro]; rfl)) (fun w₁ hR K hK => ?_)
    obtain ⟨d, rfl⟩ := hR
    go_simp
    try (unfold stored; go_simp)
    try go_ints
    refine hK _ _ () (da_nil (listed_nil (by simp [go_sem, *])) (Nat.le_refl _)) ?_
    clear hK K
    try simp only [at_alloc, at_set, at_heap]
    refine la_strip hT ?_
    try walk_nrm
    refine t_call hT rfl (by rfl) (by first | decide | assumption) (by first | rfl | (rw [hro]; rfl)) rfl Try.func17 (by rfl) rfl (by walk_nrm; exact CR.out _ _ hi4.pr hA) ?_
    rintro _ ⟨⟩ W5 ⟨ht, V5, hp, ⟨⟨⟨B5, d5⟩, rfl, hB5⟩, l⟩⟩
    try walk_nrm
    have hi5 := hi4.ltr l hp ht
    replace hA := rdA_ltr hi4.pr hA l
    replace hRR := hRR.ltr hi4.pr l
    clear ht hp l hi4 CR
    refine t_call hT rfl (by rfl) (by first | decide | assumption) (by first | rfl | (rw [hro]; rfl)) rfl Try.func20 (by rfl) rfl (by walk_nrm; exact CM.out _ _ _ _ hi5.pr hRR hB5) ?_
    rintro _ ⟨⟩ W6 ⟨ht, V6, hp, rfl, l⟩
    try walk_nrm
    have hi6 := hi5.ltr l hp ht
    replace hA := rdA_ltr hi5.pr hA l
    replace hRR := hRR.ltr hi5.pr l
    clear ht hp l hi5 CM hB5
    refine t_op hT rfl (by rfl) (by first | decide | assumption) (by first | rfl | (rw [hro]; rfl)) (fun w₁ hR K hK => ?_)
    obtain ⟨d, rfl⟩ := hR
    go_simp
    try (unfold stored; go_simp)
    try go_ints
    refine hK _ _ () (da_nil (listed_nil (by simp [go_sem, *])) (Nat.le_refl _)) ?_
    clear hK K
    try simp only [at_alloc, at_set, at_heap]
    refine la_strip hT ?_
    try walk_nrm
    repeat (first | refine t_seq hT ?_ | refine t_block hT ?_ | refine t_skip hT ?_ | refine t_inBlock hT ?_ | refine t_rend hT ?_ | refine t_exit hT rfl ?_)
    refine t_cond hT (t := _) rfl ?_
    simp only [if_true, if_false, reduceIte, Bool.false_eq_true, *]
    repeat (first | refine t_seq hT ?_ | refine t_block hT ?_ | refine t_skip hT ?_ | refine t_inBlock hT ?_ | refine t_rend hT ?_ | refine t_exit hT rfl ?_)
    refine t_region hT [0, 1, 2] rfl ?_
    refine t_op hT rfl (by rfl) (by first | decide | assumption) (by first | rfl | (rw [hro]; rfl)) (fun w₁ hR K hK => ?_)
    obtain ⟨d, rfl⟩ := hR
    go_simp
    try (unfold stored; go_simp)
    try go_ints
    refine hK _ _ () (da_nil (listed_nil (by simp [go_sem, *])) (Nat.le_refl _)) ?_
    clear hK K
    try simp only [at_alloc, at_set, at_heap]
    refine la_strip hT ?_
    try walk_nrm
    refine t_op hT rfl (by rfl) (by first | decide | assumption) (by first | rfl | (rw [hro]; rfl)) (fun w₁ hR K hK => ?_)
    obtain ⟨d, rfl⟩ := hR
    go_simp
    try (unfold stored; go_simp)
    try go_ints
    refine hK _ _ () (da_nil (listed_nil (by simp [go_sem, *])) (Nat.le_refl _)) ?_
    clear hK K
    try simp only [at_alloc, at_set, at_heap]
    refine la_strip hT ?_
    try walk_nrm
    by_cases h0 : L.length = 0
    · have hd0 : (((L.length : Nat) : Int) == 0) = true := by simp [h0]
      have hd1 : decide (((L.length : Nat) : Int) = 0) = true := by simp [h0]
      refine t_op hT rfl (by rfl) (by first | decide | assumption) (by first | rfl | (rw [hro]; rfl)) (fun w₁ hR K hK => ?_)
      obtain ⟨d, rfl⟩ := hR
      go_simp
      try (unfold stored; go_simp)
      try go_ints
      refine hK _ _ () (da_nil (listed_nil (by simp [go_sem, *])) (Nat.le_refl _)) ?_
      clear hK K
      try simp only [at_alloc, at_set, at_heap]
      refine la_strip hT ?_
      try walk_nrm
      repeat (first | refine t_seq hT ?_ | refine t_block hT ?_ | refine t_skip hT ?_ | refine t_inBlock hT ?_ | refine t_rend hT ?_ | refine t_exit hT rfl ?_)
      refine t_cond hT (t := _) rfl ?_
      simp only [if_true, if_false, reduceIte, Bool.false_eq_true, *]
      repeat (first | refine t_seq hT ?_ | refine t_block hT ?_ | refine t_skip hT ?_ | refine t_inBlock hT ?_ | refine t_rend hT ?_ | refine t_exit hT rfl ?_)
      refine t_region hT [0, 1] rfl ?_
      refine t_call hT rfl (by rfl) (by first | decide | assumption) (by first | rfl | (rw [hro]; rfl)) rfl Try.func21 (by rfl) rfl (by walk_nrm; exact CA.out _ _ hi6.pr) ?_
      rintro _ ⟨⟩ W8 ⟨ht8, V8, hp, rfl, l⟩
      try walk_nrm
      have hi8 := hi6.ltr l hp ht8
      refine t_op hT rfl (by rfl) (by first | decide | assumption) (by first | rfl | (rw [hro]; rfl)) (fun w₁ hR K hK => ?_)
      obtain ⟨d, rfl⟩ := hR
      go_simp
      try (unfold stored; go_simp)
      try go_ints
      refine hK _ _ () (da_nil (listed_nil (by simp [go_sem, *])) (Nat.le_refl _)) ?_
      clear hK K
      try simp only [at_alloc, at_set, at_heap]
      refine la_strip hT ?_
      try walk_nrm
      refine t_rend hT ?_
      exact hret1.out _ _ _ _ rfl rfl hi8
    · have hd0 : (((L.length : Nat) : Int) == 0) = false := by simp; intro e; exact h0 (by rw [e]; rfl)
      have hd1 : decide (((L.length : Nat) : Int) = 0) = false := by simp; intro e; exact h0 (by rw [e]; rfl)
      have hla := hid (hlaw.out (fun e => h0 (by rw [e]; rfl)))
      refine t_op hT rfl (by rfl) (by first | decide | assumption) (by first | rfl | (rw [hro]; rfl)) (fun w₁ hR K hK => ?_)
      obtain ⟨d, rfl⟩ := hR
      go_simp
      try (unfold stored; go_simp)
      try go_ints
      refine hK _ _ () (da_nil (listed_nil (by simp [go_sem, *])) (Nat.le_refl _)) ?_
      clear hK K
      try simp only [at_alloc, at_set, at_heap]
      refine la_strip hT ?_
      try walk_nrm
      repeat (first | refine t_seq hT ?_ | refine t_block hT ?_ | refine t_skip hT ?_ | refine t_inBlock hT ?_ | refine t_rend hT ?_ | refine t_exit hT rfl ?_)
      refine t_cond hT (t := _) rfl ?_
      simp only [if_true, if_false, reduceIte, Bool.false_eq_true, *]
      repeat (first | refine t_seq hT ?_ | refine t_block hT ?_ | refine t_skip hT ?_ | refine t_inBlock hT ?_ | refine t_rend hT ?_ | refine t_exit hT rfl ?_)
      refine t_region hT [0] rfl ?_
      refine t_op hT rfl (by rfl) (by first | decide | assumption) (by first | rfl | (rw [hro]; rfl)) (fun w₁ hR K hK => ?_)
      obtain ⟨d, rfl⟩ := hR
      go_simp
      try (unfold stored; go_simp)
      try go_ints
      refine hK _ _ () (da_nil (listed_nil (by simp [go_sem, *])) (Nat.le_refl _)) ?_
      clear hK K
      try simp only [at_alloc, at_set, at_heap]
      refine la_strip hT ?_
      try walk_nrm
      repeat (first | refine t_seq hT ?_ | refine t_block hT ?_ | refine t_skip hT ?_ | refine t_inBlock hT ?_ | refine t_rend hT ?_ | refine t_exit hT rfl ?_)
      refine t_region hT [0] rfl ?_
      refine t_op hT rfl (by rfl) (by first | decide | assumption) (by first | rfl | (rw [hro]; rfl)) (fun w₁ hR K hK => ?_)
      obtain ⟨d, rfl⟩ := hR
      go_simp
      try (unfold stored; go_simp)
      try go_ints
      refine hK _ _ () (da_nil (listed_nil (by simp [go_sem, *])) (Nat.le_refl _)) ?_
      clear hK K
      try simp only [at_alloc, at_set, at_heap]
      refine la_strip hT ?_
      try walk_nrm
      repeat (first | refine t_seq hT ?_ | refine t_block hT ?_ | refine t_skip hT ?_ | refine t_inBlock hT ?_ | refine t_rend hT ?_ | refine t_exit hT rfl ?_)
      refine t_region hT [0] rfl ?_
      refine t_op hT rfl (by rfl) (by first | decide | assumption) (by first | rfl | (rw [hro]; rfl)) (fun w₁ hR K hK => ?_)
      obtain ⟨d, rfl⟩ := hR
      go_simp
      try (unfold stored; go_simp)
      try go_ints
      refine hK _ _ () (da_nil (listed_nil (by simp [go_sem, *])) (Nat.le_refl _)) ?_
      clear hK K
      try simp only [at_alloc, at_set, at_heap]
      refine la_strip hT ?_
      try walk_nrm
      repeat (first | refine t_seq hT ?_ | refine t_block hT ?_ | refine t_skip hT ?_ | refine t_inBlock hT ?_ | refine t_rend hT ?_ | refine t_exit hT rfl ?_)
      clear hd0 hd1 h0
      refine loop_begin hT (m := L.length) (fun m a' w' => a'.defers = [] ∧ a'.tmps.size = 80 ∧ a'.tmps.getD 3 undef = .slice A xs.length c ∧ a'.tmps.getD 4 undef = .slice ad L.length cp ∧ ∃ k : Nat, k ≤ L.length ∧ a'.tmps.getD 5 undef = .bool (hasB (L.take k) xs) ∧ a'.tmps.getD 6 undef = .bool (hasB (L.take k) (sameL (xs.length : Int))) ∧ a'.tmps.getD 7 undef = .int .i64 (k : Int) ∧ m = L.length - k ∧ SV Sb' w (fun v => RdRR v ad L ∧ RdA v A xs) w') ⟨rfl, rfl, rfl, rfl, 0, Nat.zero_le _, rfl, rfl, rfl, rfl, V6, hi6, hRR, hA⟩ ?_
      clear hi6 hRR hA
      rintro m ⟨tmps, ds⟩ w' ⟨rfl, hsz, h3, h4, k, hkn, h5, h6, h7, rfl, hS⟩ IH
      obtain ⟨J, rfl⟩ : ∃ J : Nat → Value, tmps = #[J 0, J 1, J 2, J 3, J 4, J 5, J 6, J 7, J 8, J 9, J 10, J 11, J 12, J 13, J 14, J 15, J 16, J 17, J 18, J 19, J 20, J 21, J 22, J 23, J 24, J 25, J 26, J 27, J 28, J 29, J 30, J 31, J 32, J 33, J 34, J 35, J 36, J 37, J 38, J 39, J 40, J 41, J 42, J 43, J 44, J 45, J 46, J 47, J 48, J 49, J 50, J 51, J 52, J 53, J 54, J 55, J 56, J 57, J 58, J 59, J 60, J 61, J 62, J 63, J 64, J 65, J 66, J 67, J 68, J 69, J 70, J 71, J 72, J 73, J 74, J 75, J 76, J 77, J 78, J 79] := ⟨fun i => tmps.getD i undef, (lit tmps).trans (by rw [hsz]; rfl)⟩
      change J 3 = _ at h3
      change J 4 = _ at h4
      change J 5 = _ at h5
      change J 6 = _ at h6
      change J 7 = _ at h7
      simp only [h3, h4, h5, h6, h7]
      clear hsz h3 h4 h5 h6
      by_cases hlt : k < L.length
      · have hd : decide ((k : Int) < (L.length : Int)) = true := by simp; omega
        have hk1 := hid (show (k : Int) + 1 = ((k + 1 : Nat) : Int) by omega)
        have hgm := glmem hlt
        have hgr := hid (hrow.out _ hgm)
        obtain ⟨V7, hi7, hRR7, hA7⟩ := hS
        obtain ⟨ad', D, d', rfl, hcl, hrd⟩ := hRR7 k hlt
        have hS : SV Sb' w (RG2 A xs ad' L k D (gl L k).length d' (gl L k)) w' := ⟨V7, hi7, ⟨hRR7, hA7⟩, hcl, hrd⟩
        clear hi7 hRR7 hA7 hcl hrd V7
        have hst1 := hid (has_step hlt xs)
        have hst2 := hid (has_step hlt (sameL (xs.length : Int)))
        have hgl4 := hid (show (gl L k).length ≤ 4 by have := hgr.out.2.1; have := hgr.out.2.2.1; omega)
        have hsl := hid (show (sameL (xs.length : Int)).length ≤ 1048577 by obtain ⟨hgx, _⟩ := hla.out; rw [(same_good hgx.1.1 hgx.1.2).2.1]; exact hx)
        have CI1 := hid (fun (v w : World) => CI.out v w D A d' c (gl L k) xs hgm hx)
        have CI2 := hid (fun (v w : World) (B : Option Addr) (e' : Nat) => CI.out v w D B d' e' (gl L k) (sameL (xs.length : Int)) hgm hsl.out)
        have CW1 := hid (fun (v w : World) => CW.out v w D d' (gl L k) (by have := hgl4.out; omega))
        rw [hla.out.2.2.2 _ hgm] at CW1
        have hcell := hid (fun (F : World → Prop) (k : Nat) (n : Nat) (D : Option Addr) (d' : Nat) (hF : ∀ v, F v → v.cell? (ad'.add k) = some (.slice D n d')) (w' : World) (h : SV Sb' w F w') => h.cell hF)
        have CPk := hid (fun (k' : Nat) (hk' : k = k' + 1) (V : World) (hRR : RdRR V (some ad') L) => show ∃ E e', V.cell? (ad'.add k') = some (.slice E (gl L k').length e') ∧ RdA V E (gl L k') ∧ gl L k' ∈ L by
          obtain ⟨q, E, e', e, h1, h2⟩ := hRR k' (by omega)
          cases e
          exact ⟨E, e', h1, h2, glmem (by omega)⟩)
        have hcomp := hid (fun g0 (hg0 : g0 ∈ L) => show withB (behindL (gl L k) g0) xs = true from withP_comp (hla.out.2.2.2 _ hgm) (hla.out.2.2.2 _ hg0))
        have CB1 := hid (fun (v w : World) (E : Option Addr) (e' : Nat) (g0 : List Int) (hg0 : g0 ∈ L) => CB.out v w D E d' e' (gl L k) g0 hgm hg0)
        have hbl := hid (fun g0 (hg0 : g0 ∈ L) => show (behindL (gl L k) g0).length ≤ 1048577 from behindL_len _ _ (by have := hgl4.out; omega))
        clear hgm
        generalize gl L k = g at *
        repeat (first | refine t_seq hT ?_ | refine t_block hT ?_ | refine t_skip hT ?_ | refine t_inBlock hT ?_ | refine t_rend hT ?_ | refine t_exit hT rfl ?_)
        refine t_region hT [0, 1, 2, 3] rfl ?_
        refine t_op hT rfl (by rfl) (by first | decide | assumption) (by first | rfl | (rw [hro]; rfl)) (fun w₁ hR K hK => ?_)
        obtain ⟨d, rfl⟩ := hR
        go_simp
        try (unfold stored; go_simp)
        try go_ints
        refine hK _ _ () (da_nil (listed_nil (by simp [go_sem, *])) (Nat.le_refl _)) ?_
        clear hK K
        try simp only [at_alloc, at_set, at_heap]
        refine la_strip hT ?_
        try walk_nrm
        refine t_op hT rfl (by rfl) (by first | decide | assumption) (by first | rfl | (rw [hro]; rfl)) (fun w₁ hR K hK => ?_)
        obtain ⟨d, rfl⟩ := hR
        go_simp
        try (unfold stored; go_simp)
        try go_ints
        refine hK _ _ () (da_nil (listed_nil (by simp [go_sem, *])) (Nat.le_refl _)) ?_
        clear hK K
        try simp only [at_alloc, at_set, at_heap]
        refine la_strip hT ?_
        try walk_nrm
        refine t_op hT rfl (by rfl) (by first | decide | assumption) (by first | rfl | (rw [hro]; rfl)) (fun w₁ hR K hK => ?_)
        obtain ⟨d, rfl⟩ := hR
        go_simp
        try (unfold stored; go_simp)
        try go_ints
        refine hK _ _ () (da_nil (listed_nil (by simp [go_sem, *])) (Nat.le_refl _)) ?_
        clear hK K
        try simp only [at_alloc, at_set, at_heap]
        refine la_strip hT ?_
        try walk_nrm
        refine t_op hT rfl (by rfl) (by first | decide | assumption) (by first | rfl | (rw [hro]; rfl)) (fun w₁ hR K hK => ?_)
        obtain ⟨d, rfl⟩ := hR
        go_simp
        try (unfold stored; go_simp)
        try go_ints
        refine hK _ _ () (da_nil (listed_nil (by simp [go_sem, *])) (Nat.le_refl _)) ?_
        clear hK K
        try simp only [at_alloc, at_set, at_heap]
        refine la_strip hT ?_
        try walk_nrm
        repeat (first | refine t_seq hT ?_ | refine t_block hT ?_ | refine t_skip hT ?_ | refine t_inBlock hT ?_ | refine t_rend hT ?_ | refine t_exit hT rfl ?_)
        refine t_cond hT (t := _) rfl ?_
        simp only [if_true, if_false, reduceIte, Bool.false_eq_true, *]
        repeat (first | refine t_seq hT ?_ | refine t_block hT ?_ | refine t_skip hT ?_ | refine t_inBlock hT ?_ | refine t_rend hT ?_ | refine t_exit hT rfl ?_)
        refine t_join (fun a' w' => (a'.defers = [] ∧ a'.tmps.size = 80 ∧ a'.tmps.getD 3 undef = .slice A xs.length c ∧ a'.tmps.getD 4 undef = .slice (some ad') L.length cp) ∧ a'.tmps.getD 5 undef = .bool (hasB (L.take (k + 1)) xs) ∧ a'.tmps.getD 6 undef = .bool (hasB (L.take k) (sameL (xs.length : Int))) ∧ a'.tmps.getD 7 undef = .int .i64 (k : Int) ∧ SV Sb' w (RG2 A xs ad' L k D g.length d' g) w') ?_ (fun HK => ?_)
        rotate_left
        · rw [hst1.out] at HK
          refine t_region hT [0, 1, 2, 3, 4, 5, 6, 7, 8, 9] rfl ?_
          refine t_op hT rfl (by rfl) (by first | decide | assumption) (by first | rfl | (rw [hro]; rfl)) (fun w₁ hR K hK => ?_)
          obtain ⟨d, rfl⟩ := hR
          go_simp
          try (unfold stored; go_simp)
          try go_ints
          refine hK _ _ () (da_nil (listed_nil (by simp [go_sem, *])) (Nat.le_refl _)) ?_
          clear hK K
          try simp only [at_alloc, at_set, at_heap]
          refine la_strip hT ?_
          try walk_nrm
          refine t_op hT rfl (by rfl) (by first | decide | assumption) (by first | rfl | (rw [hro]; rfl)) (fun w₁ hR K hK => ?_)
          obtain ⟨d, rfl⟩ := hR
          go_simp
          try (unfold stored; go_simp)
          try go_ints
          refine hK _ _ () (da_nil (listed_nil (by simp [go_sem, *])) (Nat.le_refl _)) ?_
          clear hK K
          try simp only [at_alloc, at_set, at_heap]
          refine la_strip hT ?_
          try walk_nrm
          generalize hasB (L.take k) xs = o1 at *
          cases o1 with
          | true =>
            refine t_un hT rfl (by rfl) ?_
            try walk_nrm
            refine t_un hT rfl (by rfl) ?_
            try walk_nrm
            refine t_un hT rfl (by rfl) ?_
            try walk_nrm
            refine t_un hT rfl (by rfl) ?_
            try walk_nrm
            refine t_un hT rfl (by rfl) ?_
            try walk_nrm
            refine t_un hT rfl (by rfl) ?_
            try walk_nrm
            refine t_op hT rfl (by rfl) (by first | decide | assumption) (by first | rfl | (rw [hro]; rfl)) (fun w₁ hR K hK => ?_)
            obtain ⟨d, rfl⟩ := hR
            go_simp
            try (unfold stored; go_simp)
            try go_ints
            refine hK _ _ () (da_nil (listed_nil (by simp [go_sem, *])) (Nat.le_refl _)) ?_
            clear hK K
            try simp only [at_alloc, at_set, at_heap]
            refine la_strip hT ?_
            try walk_nrm
            refine t_op hT rfl (by rfl) (by first | decide | assumption) (by first | rfl | (rw [hro]; rfl)) (fun w₁ hR K hK => ?_)
            obtain ⟨d, rfl⟩ := hR
            go_simp
            try (unfold stored; go_simp)
            try go_ints
            refine hK _ _ () (da_nil (listed_nil (by simp [go_sem, *])) (Nat.le_refl _)) ?_
            clear hK K
            try simp only [at_alloc, at_set, at_heap]
            refine la_strip hT ?_
            try walk_nrm
            refine t_rend hT ?_
            exact HK _ _ ⟨⟨rfl, rfl, rfl, rfl⟩, rfl, rfl, rfl, hS⟩
          | false =>
            have hcx := hcell.out _ _ _ _ _ (fun v q => q.2.1) _ hS
            refine t_op hT rfl (by rfl) (by first | decide | assumption) (by first | rfl | (rw [hro]; rfl)) (fun w₁ hR K hK => ?_)
            obtain ⟨d, rfl⟩ := hR
            go_simp
            try (unfold stored; go_simp)
            try go_ints
            refine hK _ _ () (da_nil (listed_nil (by simp [go_sem, *])) (Nat.le_refl _)) ?_
            clear hK K
            try simp only [at_alloc, at_set, at_heap]
            refine la_strip hT ?_
            try walk_nrm
            refine t_op hT rfl (by rfl) (by first | decide | assumption) (by first | rfl | (rw [hro]; rfl)) (fun w₁ hR K hK => ?_)
            obtain ⟨d, rfl⟩ := hR
            go_simp
            try (unfold stored; go_simp)
            try go_ints
            refine hK _ _ () (da_nil (listed_nil (by simp [go_sem, *])) (Nat.le_refl _)) ?_
            clear hK K
            try simp only [at_alloc, at_set, at_heap]
            refine la_strip hT ?_
            try walk_nrm
            refine t_op hT rfl (by rfl) (by first | decide | assumption) (by first | rfl | (rw [hro]; rfl)) (fun w₁ hR K hK => ?_)
            obtain ⟨d, rfl⟩ := hR
            go_simp
            try (unfold stored; go_simp)
            try go_ints
            refine hK _ _ () (da_nil (listed_nil (by simp [go_sem, *])) (Nat.le_refl _)) ?_
            clear hK K
            try simp only [at_alloc, at_set, at_heap]
            refine la_strip hT ?_
            try walk_nrm
            refine t_op hT rfl (by rfl) (by first | decide | assumption) (by first | rfl | (rw [hro]; rfl)) (fun w₁ hR K hK => ?_)
            obtain ⟨d, rfl⟩ := hR
            have hcd : (w'.at d).cell? (ad'.add k) = _ := hcx.1
            go_simp
            try (unfold stored; go_simp)
            try go_ints
            refine hK _ _ () (⟨Nat.le_refl _, by co_evs (exact evA_cell (by show (ad'.add k).block < w'.heap.size; exact hcx.2.1) hcx.2.2)⟩) ?_
            clear hK K
            try simp only [at_alloc, at_set, at_heap]
            refine la_strip hT ?_
            try walk_nrm
            refine t_op hT rfl (by rfl) (by first | decide | assumption) (by first | rfl | (rw [hro]; rfl)) (fun w₁ hR K hK => ?_)
            obtain ⟨d, rfl⟩ := hR
            go_simp
            try (unfold stored; go_simp)
            try go_ints
            refine hK _ _ () (da_nil (listed_nil (by simp [go_sem, *])) (Nat.le_refl _)) ?_
            clear hK K
            try simp only [at_alloc, at_set, at_heap]
            refine la_strip hT ?_
            try walk_nrm
            obtain ⟨V7, hi7, hf7⟩ := hS
            refine t_call hT rfl (by rfl) (by first | decide | assumption) (by first | rfl | (rw [hro]; rfl)) rfl Try.func22 (by rfl) rfl (by walk_nrm; exact CI1.out _ _ hi7.pr hf7.2.2 hf7.1.2) ?_
            rintro _ ⟨⟩ W8 ⟨ht8, V8, hp, rfl, l⟩
            try walk_nrm
            have hS : SV Sb' w (RG2 A xs ad' L k D g.length d' g) W8 := ⟨V8, hi7.ltr l hp ht8, stb_rg2 _ _ _ hi7.pr hf7 l⟩
            clear hi7 hf7 ht8 hp l hcx
            refine t_op hT rfl (by rfl) (by first | decide | assumption) (by first | rfl | (rw [hro]; rfl)) (fun w₁ hR K hK => ?_)
            obtain ⟨d, rfl⟩ := hR
            go_simp
            try (unfold stored; go_simp)
            try go_ints
            refine hK _ _ () (da_nil (listed_nil (by simp [go_sem, *])) (Nat.le_refl _)) ?_
            clear hK K
            try simp only [at_alloc, at_set, at_heap]
            refine la_strip hT ?_
            try walk_nrm
            refine t_op hT rfl (by rfl) (by first | decide | assumption) (by first | rfl | (rw [hro]; rfl)) (fun w₁ hR K hK => ?_)
            obtain ⟨d, rfl⟩ := hR
            go_simp
            try (unfold stored; go_simp)
            try go_ints
            refine hK _ _ () (da_nil (listed_nil (by simp [go_sem, *])) (Nat.le_refl _)) ?_
            clear hK K
            try simp only [at_alloc, at_set, at_heap]
            refine la_strip hT ?_
            try walk_nrm
            refine t_rend hT ?_
            exact HK _ _ ⟨⟨rfl, rfl, rfl, rfl⟩, rfl, rfl, rfl, hS⟩
        clear hS
        rintro ⟨tmps, ds⟩ w2 ⟨⟨rfl, hsz, h3, h4⟩, h5, h6, h7, hS⟩
        obtain ⟨J, rfl⟩ : ∃ J : Nat → Value, tmps = #[J 0, J 1, J 2, J 3, J 4, J 5, J 6, J 7, J 8, J 9, J 10, J 11, J 12, J 13, J 14, J 15, J 16, J 17, J 18, J 19, J 20, J 21, J 22, J 23, J 24, J 25, J 26, J 27, J 28, J 29, J 30, J 31, J 32, J 33, J 34, J 35, J 36, J 37, J 38, J 39, J 40, J 41, J 42, J 43, J 44, J 45, J 46, J 47, J 48, J 49, J 50, J 51, J 52, J 53, J 54, J 55, J 56, J 57, J 58, J 59, J 60, J 61, J 62, J 63, J 64, J 65, J 66, J 67, J 68, J 69, J 70, J 71, J 72, J 73, J 74, J 75, J 76, J 77, J 78, J 79] := ⟨fun i => tmps.getD i undef, (lit tmps).trans (by rw [hsz]; rfl)⟩
        change J 3 = _ at h3
        change J 4 = _ at h4
        change J 5 = _ at h5
        change J 6 = _ at h6
        change J 7 = _ at h7
        simp only [h3, h4, h5, h6, h7]
        clear hsz h3 h4 h5 h6
        obtain ⟨o5, ho5⟩ : ∃ o5, hasB (L.take (k + 1)) xs = o5 := ⟨_, rfl⟩
        rw [ho5]
        have H5 := hid ho5
        clear ho5
        repeat (first | refine t_seq hT ?_ | refine t_block hT ?_ | refine t_skip hT ?_ | refine t_inBlock hT ?_ | refine t_rend hT ?_ | refine t_exit hT rfl ?_)
        refine t_join (fun a' w' => (a'.defers = [] ∧ a'.tmps.size = 80 ∧ a'.tmps.getD 3 undef = .slice A xs.length c ∧ a'.tmps.getD 4 undef = .slice (some ad') L.length cp) ∧ a'.tmps.getD 5 undef = .bool o5 ∧ a'.tmps.getD 6 undef = .bool (hasB (L.take (k + 1)) (sameL (xs.length : Int))) ∧ a'.tmps.getD 7 undef = .int .i64 (k : Int) ∧ SV Sb' w (RG2 A xs ad' L k D g.length d' g) w') ?_ (fun HK => ?_)
        rotate_left
        · rw [hst2.out] at HK
          generalize hasB (L.take k) (sameL (xs.length : Int)) = o6 at *
          cases o6 with
          | true =>
            refine t_drawC hT (S := SV Sb' w (RG2 A xs ad' L k D g.length d' g)) (fun _ _ h r => h.rely r) (fun _ h => h.drew) (by first | kernel_rfl | rfl) hk hro hS ?_
            clear hS
            refine anyC_take (i := 0) (v := .bool true) rfl (by decide +kernel) (by decide +kernel) (by decide +kernel) (.inl ⟨by rfl, fun _ hw => ⟨run_eq_of (fun K hK => ?_), ?_⟩⟩) ?_
            · skip
              go_simp
              try go_ints
              exact hK
            · skip
              rw [listed_nil (by simp [go_sem, *])]; exact hT.idle _ _
            try walk_nrm
            refine anyC_take (i := 1) (v := .bool true) rfl (by decide +kernel) (by decide +kernel) (by decide +kernel) (.inl ⟨by rfl, fun _ hw => ⟨run_eq_of (fun K hK => ?_), ?_⟩⟩) ?_
            · skip
              go_simp
              try go_ints
              exact hK
            · skip
              rw [listed_nil (by simp [go_sem, *])]; exact hT.idle _ _
            try walk_nrm
            refine anyC_take (i := 2) (v := undef) rfl (by decide +kernel) (by decide +kernel) (by decide +kernel) (.inr ⟨by rfl, rfl⟩) ?_
            try walk_nrm
            refine anyC_take (i := 3) (v := undef) rfl (by decide +kernel) (by decide +kernel) (by decide +kernel) (.inr ⟨by rfl, rfl⟩) ?_
            try walk_nrm
            refine anyC_take (i := 4) (v := undef) rfl (by decide +kernel) (by decide +kernel) (by decide +kernel) (.inr ⟨by rfl, rfl⟩) ?_
            try walk_nrm
            refine anyC_take (i := 5) (v := undef) rfl (by decide +kernel) (by decide +kernel) (by decide +kernel) (.inr ⟨by rfl, rfl⟩) ?_
            try walk_nrm
            refine anyC_take (i := 6) (v := undef) rfl (by decide +kernel) (by decide +kernel) (by decide +kernel) (.inr ⟨by rfl, rfl⟩) ?_
            try walk_nrm
            refine anyC_take (i := 7) (v := undef) rfl (by decide +kernel) (by decide +kernel) (by decide +kernel) (.inr ⟨by rfl, rfl⟩) ?_
            try walk_nrm
            refine anyC_take (i := 8) (v := undef) rfl (by decide +kernel) (by decide +kernel) (by decide +kernel) (.inr ⟨by rfl, rfl⟩) ?_
            try walk_nrm
            refine anyC_take (i := 9) (v := undef) rfl (by decide +kernel) (by decide +kernel) (by decide +kernel) (.inr ⟨by rfl, rfl⟩) ?_
            try walk_nrm
            refine anyC_take (i := 10) (v := .bool true) rfl (by decide +kernel) (by decide +kernel) (by decide +kernel) (.inl ⟨by rfl, fun _ hw => ⟨run_eq_of (fun K hK => ?_), ?_⟩⟩) ?_
            · skip
              go_simp
              try go_ints
              exact hK
            · skip
              rw [listed_nil (by simp [go_sem, *])]; exact hT.idle _ _
            try walk_nrm
            refine anyC_take (i := 11) (v := .bool true) rfl (by decide +kernel) (by decide +kernel) (by decide +kernel) (.inl ⟨by rfl, fun _ hw => ⟨run_eq_of (fun K hK => ?_), ?_⟩⟩) ?_
            · skip
              go_simp
              try go_ints
              exact hK
            · skip
              rw [listed_nil (by simp [go_sem, *])]; exact hT.idle _ _
            try walk_nrm
            refine anyC_done (by first | kernel_rfl | decide +kernel) (fun w9 hS => ?_) _
            exact HK _ _ ⟨⟨rfl, rfl, rfl, rfl⟩, rfl, rfl, rfl, hS⟩
          | false =>
            refine t_drawC hT (S := SV Sb' w (RG2 A xs ad' L k D g.length d' g)) (fun _ _ h r => h.rely r) (fun _ h => h.drew) (by first | kernel_rfl | rfl) hk hro hS ?_
            clear hS
            refine anyC_take (i := 0) (v := .bool false) rfl (by decide +kernel) (by decide +kernel) (by decide +kernel) (.inl ⟨by rfl, fun _ hw => ⟨run_eq_of (fun K hK => ?_), ?_⟩⟩) ?_
            · skip
              go_simp
              try go_ints
              exact hK
            · skip
              rw [listed_nil (by simp [go_sem, *])]; exact hT.idle _ _
            try walk_nrm
            refine anyC_take (i := 1) (v := .bool false) rfl (by decide +kernel) (by decide +kernel) (by decide +kernel) (.inl ⟨by rfl, fun _ hw => ⟨run_eq_of (fun K hK => ?_), ?_⟩⟩) ?_
            · skip
              go_simp
              try go_ints
              exact hK
            · skip
              rw [listed_nil (by simp [go_sem, *])]; exact hT.idle _ _
            try walk_nrm
            refine anyC_take (i := 2) (v := .slice (some ad') L.length cp) rfl (by decide +kernel) (by decide +kernel) (by decide +kernel) (.inl ⟨by rfl, fun _ hw => ⟨run_eq_of (fun K hK => ?_), ?_⟩⟩) ?_
            · skip
              go_simp
              try go_ints
              exact hK
            · skip
              rw [listed_nil (by simp [go_sem, *])]; exact hT.idle _ _
            try walk_nrm
            refine anyC_take (i := 3) (v := .int .i64 k) rfl (by decide +kernel) (by decide +kernel) (by decide +kernel) (.inl ⟨by rfl, fun _ hw => ⟨run_eq_of (fun K hK => ?_), ?_⟩⟩) ?_
            · skip
              go_simp
              try go_ints
              exact hK
            · skip
              rw [listed_nil (by simp [go_sem, *])]; exact hT.idle _ _
            try walk_nrm
            refine anyC_take (i := 4) (v := .pointer (some (ad'.add k))) rfl (by decide +kernel) (by decide +kernel) (by decide +kernel) (.inl ⟨by rfl, fun _ hw => ⟨run_eq_of (fun K hK => ?_), ?_⟩⟩) ?_
            · skip
              go_simp
              try go_ints
              exact hK
            · skip
              rw [listed_nil (by simp [go_sem, *])]; exact hT.idle _ _
            try walk_nrm
            refine anyC_take (i := 5) (v := .slice D g.length d') rfl (by decide +kernel) (by decide +kernel) (by decide +kernel) (.inl ⟨by rfl, fun _ hw => ⟨run_eq_of (fun K hK => ?_), ?_⟩⟩) ?_
            · have hce := hcell.out _ k g.length D d' (fun v q => q.2.1) _ hw
              go_simp
              try go_ints
              exact hK
            · have hce := hcell.out _ k g.length D d' (fun v q => q.2.1) _ hw
              refine ⟨Nat.le_refl _, ?_⟩
              co_evs (exact evA_cell hce.2.1 hce.2.2)
            try walk_nrm
            refine anyC_take (i := 6) (v := .slice A xs.length c) rfl (by decide +kernel) (by decide +kernel) (by decide +kernel) (.inl ⟨by rfl, fun _ hw => ⟨run_eq_of (fun K hK => ?_), ?_⟩⟩) ?_
            · skip
              go_simp
              try go_ints
              exact hK
            · skip
              rw [listed_nil (by simp [go_sem, *])]; exact hT.idle _ _
            try walk_nrm
            refine anyC_take (i := 7) (v := .int .i64 xs.length) rfl (by decide +kernel) (by decide +kernel) (by decide +kernel) (.inl ⟨by rfl, fun _ hw => ⟨run_eq_of (fun K hK => ?_), ?_⟩⟩) ?_
            · skip
              go_simp
              try go_ints
              exact hK
            · skip
              rw [listed_nil (by simp [go_sem, *])]; exact hT.idle _ _
            try walk_nrm
            refine anyC_call (i := 8) (by decide +kernel) rfl (by rfl) (by rfl) Try.func23 rfl rfl (fun i : Option Addr × Nat => .slice i.1 (sameL (xs.length : Int)).length i.2) (fun i => SV Sb' w (fun v => RG2 A xs ad' L k D g.length d' g v ∧ RdA v i.1 (sameL (xs.length : Int)))) (fun _ _ h => h.mono fun _ q => q.1) (fun _ _ _ h r => h.rely r) (fun w9 hw => ?_) ?_
            · walk_nrm
              refine CallsT.mono (sv_call (val := fun i : Option Addr × Nat => .slice i.1 (sameL (xs.length : Int)).length i.2) stb_rg2 hw (fun v hp hf => CS.out v w9 _ hp) (fun _ _ _ h => h)) (fun _ _ _ q => ?_)
              first | exact q | exact ⟨trivial, q.2⟩
            rintro ⟨B8, d8⟩
            try walk_nrm
            refine anyC_call (i := 9) (by decide +kernel) rfl (by rfl) (by rfl) Try.func22 rfl rfl (fun _ : Unit => .bool (decide (g = sameL (xs.length : Int)))) (fun _ => SV Sb' w (fun v => (RG2 A xs ad' L k D g.length d' g v ∧ RdA v B8 (sameL (xs.length : Int))) ∧ True)) (fun _ _ h => h.mono fun _ q => q.1) (fun _ _ _ h r => h.rely r) (fun w9 hw => ?_) ?_
            · walk_nrm
              refine CallsT.mono (sv_call (val := fun _ : Unit => .bool (decide (g = sameL (xs.length : Int)))) (G := fun _ _ => True) (stb_rg2.and stb_rd) hw (fun v hp hf => CI2.out v w9 B8 d8 hp hf.1.2.2 hf.2) (fun _ _ _ h => ⟨⟨(), h.1, trivial⟩, h.2⟩)) (fun _ _ _ q => ?_)
              first | exact q | exact ⟨trivial, q.2⟩
            rintro -
            try walk_nrm
            refine anyC_take (i := 10) (v := .bool (decide (g = sameL (xs.length : Int)))) rfl (by decide +kernel) (by decide +kernel) (by decide +kernel) (.inl ⟨by rfl, fun _ hw => ⟨run_eq_of (fun K hK => ?_), ?_⟩⟩) ?_
            · skip
              go_simp
              try go_ints
              exact hK
            · skip
              rw [listed_nil (by simp [go_sem, *])]; exact hT.idle _ _
            try walk_nrm
            refine anyC_take (i := 11) (v := .bool (decide (g = sameL (xs.length : Int)))) rfl (by decide +kernel) (by decide +kernel) (by decide +kernel) (.inl ⟨by rfl, fun _ hw => ⟨run_eq_of (fun K hK => ?_), ?_⟩⟩) ?_
            · skip
              go_simp
              try go_ints
              exact hK
            · skip
              rw [listed_nil (by simp [go_sem, *])]; exact hT.idle _ _
            try walk_nrm
            refine anyC_done (by first | kernel_rfl | decide +kernel) (fun w9 hS => ?_) _
            exact HK _ _ ⟨⟨rfl, rfl, rfl, rfl⟩, rfl, rfl, rfl, hS.mono fun v q => q.1.1⟩
        clear hS
        rintro ⟨tmps, ds⟩ w3 ⟨⟨rfl, hsz, h3, h4⟩, h5, h6, h7, hS⟩
        obtain ⟨J, rfl⟩ : ∃ J : Nat → Value, tmps = #[J 0, J 1, J 2, J 3, J 4, J 5, J 6, J 7, J 8, J 9, J 10, J 11, J 12, J 13, J 14, J 15, J 16, J 17, J 18, J 19, J 20, J 21, J 22, J 23, J 24, J 25, J 26, J 27, J 28, J 29, J 30, J 31, J 32, J 33, J 34, J 35, J 36, J 37, J 38, J 39, J 40, J 41, J 42, J 43, J 44, J 45, J 46, J 47, J 48, J 49, J 50, J 51, J 52, J 53, J 54, J 55, J 56, J 57, J 58, J 59, J 60, J 61, J 62, J 63, J 64, J 65, J 66, J 67, J 68, J 69, J 70, J 71, J 72, J 73, J 74, J 75, J 76, J 77, J 78, J 79] := ⟨fun i => tmps.getD i undef, (lit tmps).trans (by rw [hsz]; rfl)⟩
        change J 3 = _ at h3
        change J 4 = _ at h4
        change J 5 = _ at h5
        change J 6 = _ at h6
        change J 7 = _ at h7
        simp only [h3, h4, h5, h6, h7]
        clear hsz h3 h4 h5 h6
        obtain ⟨o6, ho6⟩ : ∃ o6, hasB (L.take (k + 1)) (sameL (xs.length : Int)) = o6 := ⟨_, rfl⟩
        rw [ho6]
        have H6 := hid ho6
        clear ho6
        repeat (first | refine t_seq hT ?_ | refine t_block hT ?_ | refine t_skip hT ?_ | refine t_inBlock hT ?_ | refine t_rend hT ?_ | refine t_exit hT rfl ?_)
        refine t_join (fun a' w' => (a'.defers = [] ∧ a'.tmps.size = 80 ∧ a'.tmps.getD 3 undef = .slice A xs.length c ∧ a'.tmps.getD 4 undef = .slice (some ad') L.length cp) ∧ a'.tmps.getD 5 undef = .bool o5 ∧ a'.tmps.getD 6 undef = .bool o6 ∧ a'.tmps.getD 7 undef = .int .i64 (k : Int) ∧ a'.tmps.getD 75 undef = .bool false ∧ SV Sb' w (RG2 A xs ad' L k D g.length d' g) w') ?_ (fun HK => ?_)
        rotate_left
        · by_cases hk0 : k = 0
          · have hdk : decide ((0 : Int) < (k : Int)) = false := by simp; omega
            have hdk2 : decide (0 < k) = false := by simp; omega
            clear hk0
            refine t_drawC hT (S := SV Sb' w (RG2 A xs ad' L k D g.length d' g)) (fun _ _ h r => h.rely r) (fun _ h => h.drew) (by first | kernel_rfl | rfl) hk hro hS ?_
            clear hS
            refine anyC_take (i := 0) (v := .slice (some ad') L.length cp) rfl (by decide +kernel) (by decide +kernel) (by decide +kernel) (.inl ⟨by rfl, fun _ hw => ⟨run_eq_of (fun K hK => ?_), ?_⟩⟩) ?_
            · skip
              go_simp
              try go_ints
              exact hK
            · skip
              rw [listed_nil (by simp [go_sem, *])]; exact hT.idle _ _
            try walk_nrm
            refine anyC_take (i := 1) (v := .int .i64 k) rfl (by decide +kernel) (by decide +kernel) (by decide +kernel) (.inl ⟨by rfl, fun _ hw => ⟨run_eq_of (fun K hK => ?_), ?_⟩⟩) ?_
            · skip
              go_simp
              try go_ints
              exact hK
            · skip
              rw [listed_nil (by simp [go_sem, *])]; exact hT.idle _ _
            try walk_nrm
            refine anyC_take (i := 2) (v := .pointer (some (ad'.add k))) rfl (by decide +kernel) (by decide +kernel) (by decide +kernel) (.inl ⟨by rfl, fun _ hw => ⟨run_eq_of (fun K hK => ?_), ?_⟩⟩) ?_
            · skip
              go_simp
              try go_ints
              exact hK
            · skip
              rw [listed_nil (by simp [go_sem, *])]; exact hT.idle _ _
            try walk_nrm
            refine anyC_take (i := 3) (v := .slice D g.length d') rfl (by decide +kernel) (by decide +kernel) (by decide +kernel) (.inl ⟨by rfl, fun _ hw => ⟨run_eq_of (fun K hK => ?_), ?_⟩⟩) ?_
            · have hce := hcell.out _ k g.length D d' (fun v q => q.2.1) _ hw
              go_simp
              try go_ints
              exact hK
            · have hce := hcell.out _ k g.length D d' (fun v q => q.2.1) _ hw
              refine ⟨Nat.le_refl _, ?_⟩
              co_evs (exact evA_cell hce.2.1 hce.2.2)
            try walk_nrm
            refine anyC_take (i := 4) (v := .slice A xs.length c) rfl (by decide +kernel) (by decide +kernel) (by decide +kernel) (.inl ⟨by rfl, fun _ hw => ⟨run_eq_of (fun K hK => ?_), ?_⟩⟩) ?_
            · skip
              go_simp
              try go_ints
              exact hK
            · skip
              rw [listed_nil (by simp [go_sem, *])]; exact hT.idle _ _
            try walk_nrm
            refine anyC_call (i := 5) (by decide +kernel) rfl (by rfl) (by rfl) Try.func24 rfl rfl (fun _ : Unit => .bool true) (fun _ => SV Sb' w (fun v => RG2 A xs ad' L k D g.length d' g v ∧ True)) (fun _ _ h => h.mono fun _ q => q.1) (fun _ _ _ h r => h.rely r) (fun w9 hw => ?_) ?_
            · walk_nrm
              refine CallsT.mono (sv_call (val := fun _ : Unit => .bool true) (G := fun _ _ => True) stb_rg2 hw (fun v hp hf => CW1.out v w9 hp hf.2.2 hf.1.2) (fun _ _ _ h => ⟨⟨(), h.1, trivial⟩, h.2⟩)) (fun _ _ _ q => ?_)
              first | exact q | exact ⟨trivial, q.2⟩
            rintro -
            try walk_nrm
            refine anyC_take (i := 6) (v := .bool false) rfl (by decide +kernel) (by decide +kernel) (by decide +kernel) (.inl ⟨by rfl, fun _ hw => ⟨run_eq_of (fun K hK => ?_), ?_⟩⟩) ?_
            · skip
              go_simp
              try go_ints
              exact hK
            · skip
              rw [listed_nil (by simp [go_sem, *])]; exact hT.idle _ _
            try walk_nrm
            refine anyC_take (i := 7) (v := .bool false) rfl (by decide +kernel) (by decide +kernel) (by decide +kernel) (.inl ⟨by rfl, fun _ hw => ⟨run_eq_of (fun K hK => ?_), ?_⟩⟩) ?_
            · skip
              go_simp
              try go_ints
              exact hK
            · skip
              rw [listed_nil (by simp [go_sem, *])]; exact hT.idle _ _
            try walk_nrm
            refine anyC_take (i := 8) (v := .int .i64 k) rfl (by decide +kernel) (by decide +kernel) (by decide +kernel) (.inl ⟨by rfl, fun _ hw => ⟨run_eq_of (fun K hK => ?_), ?_⟩⟩) ?_
            · skip
              go_simp
              try go_ints
              exact hK
            · skip
              rw [listed_nil (by simp [go_sem, *])]; exact hT.idle _ _
            try walk_nrm
            refine anyC_take (i := 9) (v := .bool false) rfl (by decide +kernel) (by decide +kernel) (by decide +kernel) (.inl ⟨by rfl, fun _ hw => ⟨run_eq_of (fun K hK => ?_), ?_⟩⟩) ?_
            · skip
              go_simp
              try go_ints
              exact hK
            · skip
              rw [listed_nil (by simp [go_sem, *])]; exact hT.idle _ _
            try walk_nrm
            refine anyC_take (i := 10) (v := .bool false) rfl (by decide +kernel) (by decide +kernel) (by decide +kernel) (.inl ⟨by rfl, fun _ hw => ⟨run_eq_of (fun K hK => ?_), ?_⟩⟩) ?_
            · skip
              go_simp
              try go_ints
              exact hK
            · skip
              rw [listed_nil (by simp [go_sem, *])]; exact hT.idle _ _
            try walk_nrm
            refine anyC_take (i := 11) (v := undef) rfl (by decide +kernel) (by decide +kernel) (by decide +kernel) (.inr ⟨by rfl, rfl⟩) ?_
            try walk_nrm
            refine anyC_take (i := 12) (v := undef) rfl (by decide +kernel) (by decide +kernel) (by decide +kernel) (.inr ⟨by rfl, rfl⟩) ?_
            try walk_nrm
            refine anyC_take (i := 13) (v := undef) rfl (by decide +kernel) (by decide +kernel) (by decide +kernel) (.inr ⟨by rfl, rfl⟩) ?_
            try walk_nrm
            refine anyC_take (i := 14) (v := undef) rfl (by decide +kernel) (by decide +kernel) (by decide +kernel) (.inr ⟨by rfl, rfl⟩) ?_
            try walk_nrm
            refine anyC_take (i := 15) (v := undef) rfl (by decide +kernel) (by decide +kernel) (by decide +kernel) (.inr ⟨by rfl, rfl⟩) ?_
            try walk_nrm
            refine anyC_take (i := 16) (v := undef) rfl (by decide +kernel) (by decide +kernel) (by decide +kernel) (.inr ⟨by rfl, rfl⟩) ?_
            try walk_nrm
            refine anyC_take (i := 17) (v := undef) rfl (by decide +kernel) (by decide +kernel) (by decide +kernel) (.inr ⟨by rfl, rfl⟩) ?_
            try walk_nrm
            refine anyC_take (i := 18) (v := undef) rfl (by decide +kernel) (by decide +kernel) (by decide +kernel) (.inr ⟨by rfl, rfl⟩) ?_
            try walk_nrm
            refine anyC_take (i := 19) (v := undef) rfl (by decide +kernel) (by decide +kernel) (by decide +kernel) (.inr ⟨by rfl, rfl⟩) ?_
            try walk_nrm
            refine anyC_take (i := 20) (v := undef) rfl (by decide +kernel) (by decide +kernel) (by decide +kernel) (.inr ⟨by rfl, rfl⟩) ?_
            try walk_nrm
            refine anyC_take (i := 21) (v := undef) rfl (by decide +kernel) (by decide +kernel) (by decide +kernel) (.inr ⟨by rfl, rfl⟩) ?_
            try walk_nrm
            refine anyC_take (i := 22) (v := undef) rfl (by decide +kernel) (by decide +kernel) (by decide +kernel) (.inr ⟨by rfl, rfl⟩) ?_
            try walk_nrm
            refine anyC_take (i := 23) (v := undef) rfl (by decide +kernel) (by decide +kernel) (by decide +kernel) (.inr ⟨by rfl, rfl⟩) ?_
            try walk_nrm
            refine anyC_take (i := 24) (v := .bool false) rfl (by decide +kernel) (by decide +kernel) (by decide +kernel) (.inl ⟨by rfl, fun _ hw => ⟨run_eq_of (fun K hK => ?_), ?_⟩⟩) ?_
            · skip
              go_simp
              try go_ints
              exact hK
            · skip
              rw [listed_nil (by simp [go_sem, *])]; exact hT.idle _ _
            try walk_nrm
            refine anyC_take (i := 25) (v := .bool false) rfl (by decide +kernel) (by decide +kernel) (by decide +kernel) (.inl ⟨by rfl, fun _ hw => ⟨run_eq_of (fun K hK => ?_), ?_⟩⟩) ?_
            · skip
              go_simp
              try go_ints
              exact hK
            · skip
              rw [listed_nil (by simp [go_sem, *])]; exact hT.idle _ _
            try walk_nrm
            refine anyC_done (by first | kernel_rfl | decide +kernel) (fun w9 hS => ?_) _
            exact HK _ _ ⟨⟨rfl, rfl, rfl, rfl⟩, rfl, rfl, rfl, rfl, hS.mono fun v q => q.1⟩
          · obtain ⟨k', hk'⟩ : ∃ k', k = k' + 1 := ⟨k - 1, by omega⟩
            have hdk : decide ((0 : Int) < (k : Int)) = true := by simp; omega
            have hdk2 : decide (0 < k) = true := by simp; omega
            have hlt' : k' < L.length := by omega
            have hkm := hid (show IntKind.i64.wrap ((k : Int) - 1) = ((k' : Nat) : Int) by rw [IntWalk.i64_in _ (by omega)]; omega)
            obtain ⟨V7, hi7, hf7⟩ := hS
            obtain ⟨E, e', hc0, hr0, hg0⟩ := CPk.out k' hk' V7 hf7.1.1
            have hS : SV Sb' w (fun v => RG2 A xs ad' L k D g.length d' g v ∧ v.cell? (ad'.add k') = some (.slice E (gl L k').length e') ∧ RdA v E (gl L k')) w3 := ⟨V7, hi7, hf7, hc0, hr0⟩
            have CBk := hid (fun (v w : World) => CB1.out v w E e' (gl L k') hg0)
            have CWc := hid (fun (v w : World) (B : Option Addr) (d8 : Nat) => CW.out v w B d8 (behindL g (gl L k')) (hbl.out _ hg0))
            rw [hcomp.out _ hg0] at CWc
            clear hi7 hf7 hc0 hr0 hg0 hk' hk0
            refine t_drawC hT (S := SV Sb' w (fun v => RG2 A xs ad' L k D g.length d' g v ∧ v.cell? (ad'.add k') = some (.slice E (gl L k').length e') ∧ RdA v E (gl L k'))) (fun _ _ h r => h.rely r) (fun _ h => h.drew) (by first | kernel_rfl | rfl) hk hro hS ?_
            clear hS
            refine anyC_take (i := 0) (v := .slice (some ad') L.length cp) rfl (by decide +kernel) (by decide +kernel) (by decide +kernel) (.inl ⟨by rfl, fun _ hw => ⟨run_eq_of (fun K hK => ?_), ?_⟩⟩) ?_
            · skip
              go_simp
              try go_ints
              exact hK
            · skip
              rw [listed_nil (by simp [go_sem, *])]; exact hT.idle _ _
            try walk_nrm
            refine anyC_take (i := 1) (v := .int .i64 k) rfl (by decide +kernel) (by decide +kernel) (by decide +kernel) (.inl ⟨by rfl, fun _ hw => ⟨run_eq_of (fun K hK => ?_), ?_⟩⟩) ?_
            · skip
              go_simp
              try go_ints
              exact hK
            · skip
              rw [listed_nil (by simp [go_sem, *])]; exact hT.idle _ _
            try walk_nrm
            refine anyC_take (i := 2) (v := .pointer (some (ad'.add k))) rfl (by decide +kernel) (by decide +kernel) (by decide +kernel) (.inl ⟨by rfl, fun _ hw => ⟨run_eq_of (fun K hK => ?_), ?_⟩⟩) ?_
            · skip
              go_simp
              try go_ints
              exact hK
            · skip
              rw [listed_nil (by simp [go_sem, *])]; exact hT.idle _ _
            try walk_nrm
            refine anyC_take (i := 3) (v := .slice D g.length d') rfl (by decide +kernel) (by decide +kernel) (by decide +kernel) (.inl ⟨by rfl, fun _ hw => ⟨run_eq_of (fun K hK => ?_), ?_⟩⟩) ?_
            · have hce := hcell.out _ k g.length D d' (fun v q => q.1.2.1) _ hw
              go_simp
              try go_ints
              exact hK
            · have hce := hcell.out _ k g.length D d' (fun v q => q.1.2.1) _ hw
              refine ⟨Nat.le_refl _, ?_⟩
              co_evs (exact evA_cell hce.2.1 hce.2.2)
            try walk_nrm
            refine anyC_take (i := 4) (v := .slice A xs.length c) rfl (by decide +kernel) (by decide +kernel) (by decide +kernel) (.inl ⟨by rfl, fun _ hw => ⟨run_eq_of (fun K hK => ?_), ?_⟩⟩) ?_
            · skip
              go_simp
              try go_ints
              exact hK
            · skip
              rw [listed_nil (by simp [go_sem, *])]; exact hT.idle _ _
            try walk_nrm
            refine anyC_call (i := 5) (by decide +kernel) rfl (by rfl) (by rfl) Try.func24 rfl rfl (fun _ : Unit => .bool true) (fun _ => SV Sb' w (fun v => (RG2 A xs ad' L k D g.length d' g v ∧ v.cell? (ad'.add k') = some (.slice E (gl L k').length e') ∧ RdA v E (gl L k')) ∧ True)) (fun _ _ h => h.mono fun _ q => q.1) (fun _ _ _ h r => h.rely r) (fun w9 hw => ?_) ?_
            · walk_nrm
              refine CallsT.mono (sv_call (val := fun _ : Unit => .bool true) (G := fun _ _ => True) (stb_rg2.and (stb_cell.and stb_rd)) hw (fun v hp hf => CW1.out v w9 hp hf.1.2.2 hf.1.1.2) (fun _ _ _ h => ⟨⟨(), h.1, trivial⟩, h.2⟩)) (fun _ _ _ q => ?_)
              first | exact q | exact ⟨trivial, q.2⟩
            rintro -
            try walk_nrm
            refine anyC_take (i := 6) (v := .bool false) rfl (by decide +kernel) (by decide +kernel) (by decide +kernel) (.inl ⟨by rfl, fun _ hw => ⟨run_eq_of (fun K hK => ?_), ?_⟩⟩) ?_
            · skip
              go_simp
              try go_ints
              exact hK
            · skip
              rw [listed_nil (by simp [go_sem, *])]; exact hT.idle _ _
            try walk_nrm
            refine anyC_take (i := 7) (v := .bool false) rfl (by decide +kernel) (by decide +kernel) (by decide +kernel) (.inl ⟨by rfl, fun _ hw => ⟨run_eq_of (fun K hK => ?_), ?_⟩⟩) ?_
            · skip
              go_simp
              try go_ints
              exact hK
            · skip
              rw [listed_nil (by simp [go_sem, *])]; exact hT.idle _ _
            try walk_nrm
            refine anyC_take (i := 8) (v := .int .i64 k) rfl (by decide +kernel) (by decide +kernel) (by decide +kernel) (.inl ⟨by rfl, fun _ hw => ⟨run_eq_of (fun K hK => ?_), ?_⟩⟩) ?_
            · skip
              go_simp
              try go_ints
              exact hK
            · skip
              rw [listed_nil (by simp [go_sem, *])]; exact hT.idle _ _
            try walk_nrm
            refine anyC_take (i := 9) (v := .bool true) rfl (by decide +kernel) (by decide +kernel) (by decide +kernel) (.inl ⟨by rfl, fun _ hw => ⟨run_eq_of (fun K hK => ?_), ?_⟩⟩) ?_
            · skip
              go_simp
              try go_ints
              exact hK
            · skip
              rw [listed_nil (by simp [go_sem, *])]; exact hT.idle _ _
            try walk_nrm
            refine anyC_take (i := 10) (v := .bool true) rfl (by decide +kernel) (by decide +kernel) (by decide +kernel) (.inl ⟨by rfl, fun _ hw => ⟨run_eq_of (fun K hK => ?_), ?_⟩⟩) ?_
            · skip
              go_simp
              try go_ints
              exact hK
            · skip
              rw [listed_nil (by simp [go_sem, *])]; exact hT.idle _ _
            try walk_nrm
            refine anyC_take (i := 11) (v := .slice (some ad') L.length cp) rfl (by decide +kernel) (by decide +kernel) (by decide +kernel) (.inl ⟨by rfl, fun _ hw => ⟨run_eq_of (fun K hK => ?_), ?_⟩⟩) ?_
            · skip
              go_simp
              try go_ints
              exact hK
            · skip
              rw [listed_nil (by simp [go_sem, *])]; exact hT.idle _ _
            try walk_nrm
            refine anyC_take (i := 12) (v := .int .i64 k) rfl (by decide +kernel) (by decide +kernel) (by decide +kernel) (.inl ⟨by rfl, fun _ hw => ⟨run_eq_of (fun K hK => ?_), ?_⟩⟩) ?_
            · skip
              go_simp
              try go_ints
              exact hK
            · skip
              rw [listed_nil (by simp [go_sem, *])]; exact hT.idle _ _
            try walk_nrm
            refine anyC_take (i := 13) (v := .pointer (some (ad'.add k))) rfl (by decide +kernel) (by decide +kernel) (by decide +kernel) (.inl ⟨by rfl, fun _ hw => ⟨run_eq_of (fun K hK => ?_), ?_⟩⟩) ?_
            · skip
              go_simp
              try go_ints
              exact hK
            · skip
              rw [listed_nil (by simp [go_sem, *])]; exact hT.idle _ _
            try walk_nrm
            refine anyC_take (i := 14) (v := .slice D g.length d') rfl (by decide +kernel) (by decide +kernel) (by decide +kernel) (.inl ⟨by rfl, fun _ hw => ⟨run_eq_of (fun K hK => ?_), ?_⟩⟩) ?_
            · have hce := hcell.out _ k g.length D d' (fun v q => q.1.1.2.1) _ hw
              go_simp
              try go_ints
              exact hK
            · have hce := hcell.out _ k g.length D d' (fun v q => q.1.1.2.1) _ hw
              refine ⟨Nat.le_refl _, ?_⟩
              co_evs (exact evA_cell hce.2.1 hce.2.2)
            try walk_nrm
            refine anyC_take (i := 15) (v := .slice (some ad') L.length cp) rfl (by decide +kernel) (by decide +kernel) (by decide +kernel) (.inl ⟨by rfl, fun _ hw => ⟨run_eq_of (fun K hK => ?_), ?_⟩⟩) ?_
            · skip
              go_simp
              try go_ints
              exact hK
            · skip
              rw [listed_nil (by simp [go_sem, *])]; exact hT.idle _ _
            try walk_nrm
            refine anyC_take (i := 16) (v := .int .i64 k) rfl (by decide +kernel) (by decide +kernel) (by decide +kernel) (.inl ⟨by rfl, fun _ hw => ⟨run_eq_of (fun K hK => ?_), ?_⟩⟩) ?_
            · skip
              go_simp
              try go_ints
              exact hK
            · skip
              rw [listed_nil (by simp [go_sem, *])]; exact hT.idle _ _
            try walk_nrm
            refine anyC_take (i := 17) (v := .int .i64 k') rfl (by decide +kernel) (by decide +kernel) (by decide +kernel) (.inl ⟨by rfl, fun _ hw => ⟨run_eq_of (fun K hK => ?_), ?_⟩⟩) ?_
            · have hkx := hkm.out
              go_simp
              try go_ints
              exact hK
            · have hkx := hkm.out
              rw [listed_nil (by simp [go_sem, *])]; exact hT.idle _ _
            try walk_nrm
            refine anyC_take (i := 18) (v := .pointer (some (ad'.add k'))) rfl (by decide +kernel) (by decide +kernel) (by decide +kernel) (.inl ⟨by rfl, fun _ hw => ⟨run_eq_of (fun K hK => ?_), ?_⟩⟩) ?_
            · skip
              go_simp
              try go_ints
              exact hK
            · skip
              rw [listed_nil (by simp [go_sem, *])]; exact hT.idle _ _
            try walk_nrm
            refine anyC_take (i := 19) (v := .slice E (gl L k').length e') rfl (by decide +kernel) (by decide +kernel) (by decide +kernel) (.inl ⟨by rfl, fun _ hw => ⟨run_eq_of (fun K hK => ?_), ?_⟩⟩) ?_
            · have hce := hcell.out _ k' (gl L k').length E e' (fun v q => q.1.2.1) _ hw
              go_simp
              try go_ints
              exact hK
            · have hce := hcell.out _ k' (gl L k').length E e' (fun v q => q.1.2.1) _ hw
              refine ⟨Nat.le_refl _, ?_⟩
              co_evs (exact evA_cell hce.2.1 hce.2.2)
            try walk_nrm
            refine anyC_take (i := 21) (v := .slice A xs.length c) rfl (by decide +kernel) (by decide +kernel) (by decide +kernel) (.inl ⟨by rfl, fun _ hw => ⟨run_eq_of (fun K hK => ?_), ?_⟩⟩) ?_
            · skip
              go_simp
              try go_ints
              exact hK
            · skip
              rw [listed_nil (by simp [go_sem, *])]; exact hT.idle _ _
            try walk_nrm
            refine anyC_call (i := 20) (by decide +kernel) rfl (by rfl) (by rfl) Try.func25 rfl rfl (fun i : Option Addr × Nat => .slice i.1 (behindL g (gl L k')).length i.2) (fun i => SV Sb' w (fun v => ((RG2 A xs ad' L k D g.length d' g v ∧ v.cell? (ad'.add k') = some (.slice E (gl L k').length e') ∧ RdA v E (gl L k')) ∧ True) ∧ RdA v i.1 (behindL g (gl L k')))) (fun _ _ h => h.mono fun _ q => q.1) (fun _ _ _ h r => h.rely r) (fun w9 hw => ?_) ?_
            · walk_nrm
              refine CallsT.mono (sv_call (val := fun i : Option Addr × Nat => .slice i.1 (behindL g (gl L k')).length i.2) ((stb_rg2.and (stb_cell.and stb_rd)).and stb_true) hw (fun v hp hf => CBk.out v w9 hp hf.1.1.2.2 hf.1.2.2) (fun _ _ _ h => h)) (fun _ _ _ q => ?_)
              first | exact q | exact ⟨trivial, q.2⟩
            rintro ⟨B8, d8⟩
            try walk_nrm
            refine anyC_call (i := 22) (by decide +kernel) rfl (by rfl) (by rfl) Try.func24 rfl rfl (fun _ : Unit => .bool true) (fun _ => SV Sb' w (fun v => (((RG2 A xs ad' L k D g.length d' g v ∧ v.cell? (ad'.add k') = some (.slice E (gl L k').length e') ∧ RdA v E (gl L k')) ∧ True) ∧ RdA v B8 (behindL g (gl L k'))) ∧ True)) (fun _ _ h => h.mono fun _ q => q.1) (fun _ _ _ h r => h.rely r) (fun w9 hw => ?_) ?_
            · walk_nrm
              refine CallsT.mono (sv_call (val := fun _ : Unit => .bool true) (G := fun _ _ => True) (((stb_rg2.and (stb_cell.and stb_rd)).and stb_true).and stb_rd) hw (fun v hp hf => CWc.out v w9 B8 d8 hp hf.2 hf.1.1.1.1.2) (fun _ _ _ h => ⟨⟨(), h.1, trivial⟩, h.2⟩)) (fun _ _ _ q => ?_)
              first | exact q | exact ⟨trivial, q.2⟩
            rintro -
            try walk_nrm
            refine anyC_take (i := 23) (v := .bool false) rfl (by decide +kernel) (by decide +kernel) (by decide +kernel) (.inl ⟨by rfl, fun _ hw => ⟨run_eq_of (fun K hK => ?_), ?_⟩⟩) ?_
            · skip
              go_simp
              try go_ints
              exact hK
            · skip
              rw [listed_nil (by simp [go_sem, *])]; exact hT.idle _ _
            try walk_nrm
            refine anyC_take (i := 24) (v := .bool false) rfl (by decide +kernel) (by decide +kernel) (by decide +kernel) (.inl ⟨by rfl, fun _ hw => ⟨run_eq_of (fun K hK => ?_), ?_⟩⟩) ?_
            · skip
              go_simp
              try go_ints
              exact hK
            · skip
              rw [listed_nil (by simp [go_sem, *])]; exact hT.idle _ _
            try walk_nrm
            refine anyC_take (i := 25) (v := .bool false) rfl (by decide +kernel) (by decide +kernel) (by decide +kernel) (.inl ⟨by rfl, fun _ hw => ⟨run_eq_of (fun K hK => ?_), ?_⟩⟩) ?_
            · skip
              go_simp
              try go_ints
              exact hK
            · skip
              rw [listed_nil (by simp [go_sem, *])]; exact hT.idle _ _
            try walk_nrm
            refine anyC_done (by first | kernel_rfl | decide +kernel) (fun w9 hS => ?_) _
            exact HK _ _ ⟨⟨rfl, rfl, rfl, rfl⟩, rfl, rfl, rfl, rfl, hS.mono fun v q => q.1.1.1.1⟩
        clear hS
        rintro ⟨tmps, ds⟩ w4 ⟨⟨rfl, hsz, h3, h4⟩, h5, h6, h7, h75, hS⟩
        obtain ⟨J, rfl⟩ : ∃ J : Nat → Value, tmps = #[J 0, J 1, J 2, J 3, J 4, J 5, J 6, J 7, J 8, J 9, J 10, J 11, J 12, J 13, J 14, J 15, J 16, J 17, J 18, J 19, J 20, J 21, J 22, J 23, J 24, J 25, J 26, J 27, J 28, J 29, J 30, J 31, J 32, J 33, J 34, J 35, J 36, J 37, J 38, J 39, J 40, J 41, J 42, J 43, J 44, J 45, J 46, J 47, J 48, J 49, J 50, J 51, J 52, J 53, J 54, J 55, J 56, J 57, J 58, J 59, J 60, J 61, J 62, J 63, J 64, J 65, J 66, J 67, J 68, J 69, J 70, J 71, J 72, J 73, J 74, J 75, J 76, J 77, J 78, J 79] := ⟨fun i => tmps.getD i undef, (lit tmps).trans (by rw [hsz]; rfl)⟩
        change J 3 = _ at h3
        change J 4 = _ at h4
        change J 5 = _ at h5
        change J 6 = _ at h6
        change J 7 = _ at h7
        change J 75 = _ at h75
        simp only [h3, h4, h5, h6, h7, h75]
        clear hsz h3 h4 h5 h6 h7
        repeat (first | refine t_seq hT ?_ | refine t_block hT ?_ | refine t_skip hT ?_ | refine t_inBlock hT ?_ | refine t_rend hT ?_ | refine t_exit hT rfl ?_)
        refine t_cond hT (t := _) rfl ?_
        simp only [if_true, if_false, reduceIte, Bool.false_eq_true, *]
        repeat (first | refine t_seq hT ?_ | refine t_block hT ?_ | refine t_skip hT ?_ | refine t_inBlock hT ?_ | refine t_rend hT ?_ | refine t_exit hT rfl ?_)
        refine t_region hT [0, 1, 2] rfl ?_
        refine t_op hT rfl (by rfl) (by first | decide | assumption) (by first | rfl | (rw [hro]; rfl)) (fun w₁ hR K hK => ?_)
        obtain ⟨d, rfl⟩ := hR
        go_simp
        try (unfold stored; go_simp)
        try go_ints
        refine hK _ _ () (da_nil (listed_nil (by simp [go_sem, *])) (Nat.le_refl _)) ?_
        clear hK K
        try simp only [at_alloc, at_set, at_heap]
        refine la_strip hT ?_
        try walk_nrm
        refine t_op hT rfl (by rfl) (by first | decide | assumption) (by first | rfl | (rw [hro]; rfl)) (fun w₁ hR K hK => ?_)
        obtain ⟨d, rfl⟩ := hR
        go_simp
        try (unfold stored; go_simp)
        try go_ints
        refine hK _ _ () (da_nil (listed_nil (by simp [go_sem, *])) (Nat.le_refl _)) ?_
        clear hK K
        try simp only [at_alloc, at_set, at_heap]
        refine la_strip hT ?_
        try walk_nrm
        refine t_op hT rfl (by rfl) (by first | decide | assumption) (by first | rfl | (rw [hro]; rfl)) (fun w₁ hR K hK => ?_)
        obtain ⟨d, rfl⟩ := hR
        go_simp
        try (unfold stored; go_simp)
        try go_ints
        refine hK _ _ () (da_nil (listed_nil (by simp [go_sem, *])) (Nat.le_refl _)) ?_
        clear hK K
        try simp only [at_alloc, at_set, at_heap]
        refine la_strip hT ?_
        try walk_nrm
        repeat (first | refine t_seq hT ?_ | refine t_block hT ?_ | refine t_skip hT ?_ | refine t_inBlock hT ?_ | refine t_rend hT ?_ | refine t_exit hT rfl ?_)
        exact IH _ _ _ (by omega) ⟨rfl, rfl, rfl, rfl, k + 1, by omega, congrArg Value.bool H5.out.symm, congrArg Value.bool H6.out.symm, congrArg (Value.int .i64) hk1.out, rfl, hS.mono fun v q => q.1⟩
      · have hd : decide ((k : Int) < (L.length : Int)) = false := by simp; omega
        obtain rfl : k = L.length := by omega
        rw [List.take_length, has_mem hla.out.2.1, has_mem hla.out.2.2.1] at *
        repeat (first | refine t_seq hT ?_ | refine t_block hT ?_ | refine t_skip hT ?_ | refine t_inBlock hT ?_ | refine t_rend hT ?_ | refine t_exit hT rfl ?_)
        refine t_region hT [0, 1, 2, 3] rfl ?_
        refine t_op hT rfl (by rfl) (by first | decide | assumption) (by first | rfl | (rw [hro]; rfl)) (fun w₁ hR K hK => ?_)
        obtain ⟨d, rfl⟩ := hR
        go_simp
        try (unfold stored; go_simp)
        try go_ints
        refine hK _ _ () (da_nil (listed_nil (by simp [go_sem, *])) (Nat.le_refl _)) ?_
        clear hK K
        try simp only [at_alloc, at_set, at_heap]
        refine la_strip hT ?_
        try walk_nrm
        refine t_op hT rfl (by rfl) (by first | decide | assumption) (by first | rfl | (rw [hro]; rfl)) (fun w₁ hR K hK => ?_)
        obtain ⟨d, rfl⟩ := hR
        go_simp
        try (unfold stored; go_simp)
        try go_ints
        refine hK _ _ () (da_nil (listed_nil (by simp [go_sem, *])) (Nat.le_refl _)) ?_
        clear hK K
        try simp only [at_alloc, at_set, at_heap]
        refine la_strip hT ?_
        try walk_nrm
        refine t_op hT rfl (by rfl) (by first | decide | assumption) (by first | rfl | (rw [hro]; rfl)) (fun w₁ hR K hK => ?_)
        obtain ⟨d, rfl⟩ := hR
        go_simp
        try (unfold stored; go_simp)
        try go_ints
        refine hK _ _ () (da_nil (listed_nil (by simp [go_sem, *])) (Nat.le_refl _)) ?_
        clear hK K
        try simp only [at_alloc, at_set, at_heap]
        refine la_strip hT ?_
        try walk_nrm
        refine t_op hT rfl (by rfl) (by first | decide | assumption) (by first | rfl | (rw [hro]; rfl)) (fun w₁ hR K hK => ?_)
        obtain ⟨d, rfl⟩ := hR
        go_simp
        try (unfold stored; go_simp)
        try go_ints
        refine hK _ _ () (da_nil (listed_nil (by simp [go_sem, *])) (Nat.le_refl _)) ?_
        clear hK K
        try simp only [at_alloc, at_set, at_heap]
        refine la_strip hT ?_
        try walk_nrm
        repeat (first | refine t_seq hT ?_ | refine t_block hT ?_ | refine t_skip hT ?_ | refine t_inBlock hT ?_ | refine t_rend hT ?_ | refine t_exit hT rfl ?_)
        refine t_cond hT (t := _) rfl ?_
        simp only [if_true, if_false, reduceIte, Bool.false_eq_true, *]
        repeat (first | refine t_seq hT ?_ | refine t_block hT ?_ | refine t_skip hT ?_ | refine t_inBlock hT ?_ | refine t_rend hT ?_ | refine t_exit hT rfl ?_)
        refine t_region hT [0, 1, 2, 3, 4] rfl ?_
        refine t_op hT rfl (by rfl) (by first | decide | assumption) (by first | rfl | (rw [hro]; rfl)) (fun w₁ hR K hK => ?_)
        obtain ⟨d, rfl⟩ := hR
        go_simp
        try (unfold stored; go_simp)
        try go_ints
        refine hK _ _ () (da_nil (listed_nil (by simp [go_sem, *])) (Nat.le_refl _)) ?_
        clear hK K
        try simp only [at_alloc, at_set, at_heap]
        refine la_strip hT ?_
        try walk_nrm
        refine t_op hT rfl (by rfl) (by first | decide | assumption) (by first | rfl | (rw [hro]; rfl)) (fun w₁ hR K hK => ?_)
        obtain ⟨d, rfl⟩ := hR
        go_simp
        try (unfold stored; go_simp)
        try go_ints
        refine hK _ _ () (da_nil (listed_nil (by simp [go_sem, *])) (Nat.le_refl _)) ?_
        clear hK K
        try simp only [at_alloc, at_set, at_heap]
        refine la_strip hT ?_
        try walk_nrm
        refine t_op hT rfl (by rfl) (by first | decide | assumption) (by first | rfl | (rw [hro]; rfl)) (fun w₁ hR K hK => ?_)
        obtain ⟨d, rfl⟩ := hR
        go_simp
        try (unfold stored; go_simp)
        try go_ints
        refine hK _ _ () (da_nil (listed_nil (by simp [go_sem, *])) (Nat.le_refl _)) ?_
        clear hK K
        try simp only [at_alloc, at_set, at_heap]
        refine la_strip hT ?_
        try walk_nrm
        refine t_op hT rfl (by rfl) (by first | decide | assumption) (by first | rfl | (rw [hro]; rfl)) (fun w₁ hR K hK => ?_)
        obtain ⟨d, rfl⟩ := hR
        go_simp
        try (unfold stored; go_simp)
        try go_ints
        refine hK _ _ () (da_nil (listed_nil (by simp [go_sem, *])) (Nat.le_refl _)) ?_
        clear hK K
        try simp only [at_alloc, at_set, at_heap]
        refine la_strip hT ?_
        try walk_nrm
        refine t_op hT rfl (by rfl) (by first | decide | assumption) (by first | rfl | (rw [hro]; rfl)) (fun w₁ hR K hK => ?_)
        obtain ⟨d, rfl⟩ := hR
        go_simp
        try (unfold stored; go_simp)
        try go_ints
        refine hK _ _ () (da_nil (listed_nil (by simp [go_sem, *])) (Nat.le_refl _)) ?_
        clear hK K
        try simp only [at_alloc, at_set, at_heap]
        refine la_strip hT ?_
        try walk_nrm
        refine t_rend hT ?_
        obtain ⟨V7, hi7, -⟩ := hS
        exact hret1.out _ _ _ _ rfl rfl hi7
end
end Go.Proofs.Ytkbfcaaihellfaa
