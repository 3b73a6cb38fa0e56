/- Steps on the way to the law; each part says what it proves. -/
import Derived.Test.YtkbfcaaihellfaaW6

set_option linter.unusedSimpArgs false

/- The law FnRootsOf: its run, on every schedule. -/
namespace Go.Proofs.Ytkbfcaaihellfaa
open Go.Conc Go.ConcN Go.ConcN.Gen Go.RowKit Go.Conc.Lib Go.ConcR.Gen
open Go.ConcR (KK wgBlock WgAt stA smA rd wr mk Payload Aside2 DC0)
set_option linter.unusedVariables false
set_option linter.unusedSectionVars false

section
variable {Sb : Nat → Prop} {Post : Value → World → Prop} {v w : World} {A : Option Addr} {c : Nat} {f : List Int}
theorem onLoop_la {t : Int} (hp : PR Sb v w) (hA : RdA v A f) (hn : f.length ≤ 1048577) : CLA Sb Post 27 #[.slice A f.length c, .int .i64 t] w fun x v' => x = .bool (tailV f t == 0) ∧ Ltr Sb v v' :=
  callsLA (by rfl) hp (fun τ => iOnLoop_c A c f t (v.tp τ 0) hA hn) fun τ e v' h => ⟨_, h.1, rfl, ltr_of_below h.2⟩
end
theorem evs_neb2 (b b' : Bool) (w : World) : (binOp .neq 4 (.bool b) (.bool b')).events Try.prog w #[] = #[] := by
  cases b <;> cases b' <;> kernel_rfl
/-- what a round of the law's loop knows -/
def RF (A : Option Addr) (xs : List Int) (ad : Addr) (L : List (List Int)) (k : Nat) (D : Option Addr) (n d : Nat) (g : List Int) (v : World) : Prop :=
  (RdRR v (some ad) L ∧ RdA v A xs) ∧ v.cell? (ad.add k) = some (.slice D n d) ∧ RdA v D g
theorem stb_rf {Sb : Nat → Prop} {A : Option Addr} {xs : List Int} {ad : Addr} {L : List (List Int)} {k : Nat} {D : Option Addr} {n d : Nat} {g : List Int} : Stb Sb (RF A xs ad L k D n d g) :=
  (stb_rr.and stb_rd).and (stb_cell.and stb_rd)
section
variable {a : Option Addr} {len cap : Nat} {zs : List Int} {w : World}
set_option maxHeartbeats 8000000 in
theorem FnRootsOf_la (h : RowIn .u8 w a len cap zs) : LA Try.prog (fun _ => False) (fun v w' => v = .bool true ∧ Below w.heap.size w w') () (G (Frame.enter Try.prog 6 #[.slice a len cap] .normal) []) w := by
  have hcap := h.cap
  unfold maxLen at hcap
  obtain ⟨Post, hPost⟩ : ∃ Post : Value → World → Prop, Post = fun v w' => v = .bool true ∧ Below w.heap.size w w' := ⟨_, rfl⟩
  have done := hid (show ∀ w', Below w.heap.size w w' → Post (.bool true) w' from fun w' hb => by rw [hPost]; exact ⟨rfl, hb⟩)
  rw [← hPost]
  clear hPost
  rw [enter_atR _ Try.func6 rfl]
  have hk : (base 6).kind ≠ .early := base_kind _
  have hro : (base 6).roundOf = none := rfl
  have hret := hid (fun (Sb : Nat → Prop) (v' : World) (a : Act) (k : List Item) (w' : World) (hd : a.defers = []) (hv : a.tmps.getD 2 undef = .bool true) (hi : Inv Sb w v' w') => la_ret (Sb := Sb) (Post := Post) (k := k) hd Try.func6 rfl (by kernel_rfl) hv (fun d => done.out _ (hi.at d).below))
  have hT := clo_la (P := Try.prog) (Sb := fun _ => False) (Post := Post)
  have hi0 := Inv.start w
  have hRO := hid (fun (v w1 : World) (A : Option Addr) (c : Nat) (xs : List Int) (fr : Frame) (cs : List Frame) (hi : Inv (fun _ => False) w v w1) => rootsOf_i (Post := Post) (A := A) (c := c) (xs := xs) (fr := fr) (cs := cs) hi)
  have CD := hid (fun (hp : PR (fun _ => False) w w) => drawRootsOf_la (Post := Post) hp h)
  have hret0 := hid (hret.out (fun _ => False))
  unfold CLA at CD
  generalize hT' : LA Try.prog (fun _ => False) Post = T at hT hret0 hRO CD ⊢
  simp only [Try.ntmps6, List.size_toArray, List.length_cons, List.length_nil, Nat.reduceAdd, Nat.reduceSub, Array.replicate_succ, Array.replicate_zero, List.push_toArray, List.append_toArray, List.nil_append, List.cons_append]
  by_cases hbig : 1048576 < len
  · have hd : decide ((1048576 : Int) < (len : Int)) = true := by simp; omega
    repeat (first | refine t_seq hT ?_ | refine t_block hT ?_ | refine t_skip hT ?_ | refine t_inBlock hT ?_ | refine t_rend hT ?_ | refine t_exit hT rfl ?_)
    refine t_region hT [0] rfl ?_
    refine t_op hT rfl (by rfl) (by first | decide | assumption) (by first | rfl | (rw [hro]; rfl)) (fun w₁ hR K hK => ?_)
    obtain ⟨d, rfl⟩ := hR
    go_simp
    try (unfold stored; go_simp)
    try go_ints
    refine hK _ _ () (da_nil (listed_nil (by simp [go_sem, *])) (Nat.le_refl _)) ?_
    clear hK K
    try simp only [at_alloc, at_set, at_heap]
    refine la_strip hT ?_
    try walk_nrm
    repeat (first | refine t_seq hT ?_ | refine t_block hT ?_ | refine t_skip hT ?_ | refine t_inBlock hT ?_ | refine t_rend hT ?_ | refine t_exit hT rfl ?_)
    refine t_region hT [0, 1, 2] rfl ?_
    refine t_op hT rfl (by rfl) (by first | decide | assumption) (by first | rfl | (rw [hro]; rfl)) (fun w₁ hR K hK => ?_)
    obtain ⟨d, rfl⟩ := hR
    go_simp
    try (unfold stored; go_simp)
    try go_ints
    refine hK _ _ () (da_nil (listed_nil (by simp [go_sem, *])) (Nat.le_refl _)) ?_
    clear hK K
    try simp only [at_alloc, at_set, at_heap]
    refine la_strip hT ?_
    try walk_nrm
    refine t_op hT rfl (by rfl) (by first | decide | assumption) (by first | rfl | (rw [hro]; rfl)) (fun w₁ hR K hK => ?_)
    obtain ⟨d, rfl⟩ := hR
    go_simp
    try (unfold stored; go_simp)
    try go_ints
    refine hK _ _ () (da_nil (listed_nil (by simp [go_sem, *])) (Nat.le_refl _)) ?_
    clear hK K
    try simp only [at_alloc, at_set, at_heap]
    refine la_strip hT ?_
    try walk_nrm
    refine t_op hT rfl (by rfl) (by first | decide | assumption) (by first | rfl | (rw [hro]; rfl)) (fun w₁ hR K hK => ?_)
    obtain ⟨d, rfl⟩ := hR
    go_simp
    try (unfold stored; go_simp)
    try go_ints
    refine hK _ _ () (da_nil (listed_nil (by simp [go_sem, *])) (Nat.le_refl _)) ?_
    clear hK K
    try simp only [at_alloc, at_set, at_heap]
    refine la_strip hT ?_
    try walk_nrm
    repeat (first | refine t_seq hT ?_ | refine t_block hT ?_ | refine t_skip hT ?_ | refine t_inBlock hT ?_ | refine t_rend hT ?_ | refine t_exit hT rfl ?_)
    refine t_cond hT (t := _) rfl ?_
    simp only [if_true, if_false, reduceIte, Bool.false_eq_true, *]
    repeat (first | refine t_seq hT ?_ | refine t_block hT ?_ | refine t_skip hT ?_ | refine t_inBlock hT ?_ | refine t_rend hT ?_ | refine t_exit hT rfl ?_)
    refine t_region hT [0] rfl ?_
    refine t_op hT rfl (by rfl) (by first | decide | assumption) (by first | rfl | (rw [hro]; rfl)) (fun w₁ hR K hK => ?_)
    obtain ⟨d, rfl⟩ := hR
    go_simp
    try (unfold stored; go_simp)
    try go_ints
    refine hK _ _ () (da_nil (listed_nil (by simp [go_sem, *])) (Nat.le_refl _)) ?_
    clear hK K
    try simp only [at_alloc, at_set, at_heap]
    refine la_strip hT ?_
    try walk_nrm
    refine t_rend hT ?_
    exact hret0.out _ _ _ _ rfl rfl hi0
  · have hd : decide ((1048576 : Int) < (len : Int)) = false := by simp; omega
    repeat (first | refine t_seq hT ?_ | refine t_block hT ?_ | refine t_skip hT ?_ | refine t_inBlock hT ?_ | refine t_rend hT ?_ | refine t_exit hT rfl ?_)
    refine t_region hT [0] rfl ?_
    refine t_op hT rfl (by rfl) (by first | decide | assumption) (by first | rfl | (rw [hro]; rfl)) (fun w₁ hR K hK => ?_)
    obtain ⟨d, rfl⟩ := hR
    go_simp
    try (unfold stored; go_simp)
    try go_ints
    refine hK _ _ () (da_nil (listed_nil (by simp [go_sem, *])) (Nat.le_refl _)) ?_
    clear hK K
    try simp only [at_alloc, at_set, at_heap]
    refine la_strip hT ?_
    try walk_nrm
    repeat (first | refine t_seq hT ?_ | refine t_block hT ?_ | refine t_skip hT ?_ | refine t_inBlock hT ?_ | refine t_rend hT ?_ | refine t_exit hT rfl ?_)
    refine t_region hT [0, 1, 2] rfl ?_
    refine t_op hT rfl (by rfl) (by first | decide | assumption) (by first | rfl | (rw [hro]; rfl)) (fun w₁ hR K hK => ?_)
    obtain ⟨d, rfl⟩ := hR
    go_simp
    try (unfold stored; go_simp)
    try go_ints
    refine hK _ _ () (da_nil (listed_nil (by simp [go_sem, *])) (Nat.le_refl _)) ?_
    clear hK K
    try simp only [at_alloc, at_set, at_heap]
    refine la_strip hT ?_
    try walk_nrm
    refine t_op hT rfl (by rfl) (by first | decide | assumption) (by first | rfl | (rw [hro]; rfl)) (fun w₁ hR K hK => ?_)
    obtain ⟨d, rfl⟩ := hR
    go_simp
    try (unfold stored; go_simp)
    try go_ints
    refine hK _ _ () (da_nil (listed_nil (by simp [go_sem, *])) (Nat.le_refl _)) ?_
    clear hK K
    try simp only [at_alloc, at_set, at_heap]
    refine la_strip hT ?_
    try walk_nrm
    refine t_op hT rfl (by rfl) (by first | decide | assumption) (by first | rfl | (rw [hro]; rfl)) (fun w₁ hR K hK => ?_)
    obtain ⟨d, rfl⟩ := hR
    go_simp
    try (unfold stored; go_simp)
    try go_ints
    refine hK _ _ () (da_nil (listed_nil (by simp [go_sem, *])) (Nat.le_refl _)) ?_
    clear hK K
    try simp only [at_alloc, at_set, at_heap]
    refine la_strip hT ?_
    try walk_nrm
    repeat (first | refine t_seq hT ?_ | refine t_block hT ?_ | refine t_skip hT ?_ | refine t_inBlock hT ?_ | refine t_rend hT ?_ | refine t_exit hT rfl ?_)
    refine t_cond hT (t := _) rfl ?_
    simp only [if_true, if_false, reduceIte, Bool.false_eq_true, *]
    repeat (first | refine t_seq hT ?_ | refine t_block hT ?_ | refine t_skip hT ?_ | refine t_inBlock hT ?_ | refine t_rend hT ?_ | refine t_exit hT rfl ?_)
    refine t_region hT [0, 1, 2] rfl ?_
    refine t_op hT rfl (by rfl) (by first | decide | assumption) (by first | rfl | (rw [hro]; rfl)) (fun w₁ hR K hK => ?_)
    obtain ⟨d, rfl⟩ := hR
    go_simp
    try (unfold stored; go_simp)
    try go_ints
    refine hK _ _ () (da_nil (listed_nil (by simp [go_sem, *])) (Nat.le_refl _)) ?_
    clear hK K
    try simp only [at_alloc, at_set, at_heap]
    refine la_strip hT ?_
    try walk_nrm
    refine t_call hT rfl (by rfl) (by first | decide | assumption) (by first | rfl | (rw [hro]; rfl)) rfl Try.func26 (by rfl) rfl (by walk_nrm; exact CD.out hi0.pr (by omega)) ?_
    rintro _ ⟨⟩ W1 ⟨ht, V1, hp, ⟨xs, A, c, hx8, rfl, hA⟩, l⟩
    try walk_nrm
    have hi1 := hi0.ltr l hp ht
    clear ht hp l h CD hd
    have hx : xs.length ≤ 1048577 := by omega
    refine t_op hT rfl (by rfl) (by first | decide | assumption) (by first | rfl | (rw [hro]; rfl)) (fun w₁ hR K hK => ?_)
    obtain ⟨d, rfl⟩ := hR
    go_simp
    try (unfold stored; go_simp)
    try go_ints
    refine hK _ _ () (da_nil (listed_nil (by simp [go_sem, *])) (Nat.le_refl _)) ?_
    clear hK K
    try simp only [at_alloc, at_set, at_heap]
    refine la_strip hT ?_
    try walk_nrm
    repeat (first | refine t_seq hT ?_ | refine t_block hT ?_ | refine t_skip hT ?_ | refine t_inBlock hT ?_ | refine t_rend hT ?_ | refine t_exit hT rfl ?_)
    refine t_region hT [0, 1, 2] rfl ?_
    refine t_op hT rfl (by rfl) (by first | decide | assumption) (by first | rfl | (rw [hro]; rfl)) (fun w₁ hR K hK => ?_)
    obtain ⟨d, rfl⟩ := hR
    go_simp
    try (unfold stored; go_simp)
    try go_ints
    refine hK _ _ () (da_nil (listed_nil (by simp [go_sem, *])) (Nat.le_refl _)) ?_
    clear hK K
    try simp only [at_alloc, at_set, at_heap]
    refine la_strip hT ?_
    try walk_nrm
    refine t_enter hT rfl (by rfl) (by first | decide | assumption) (by first | rfl | (rw [hro]; rfl)) rfl Try.func11 (by rfl) rfl ?_
    walk_nrm
    refine hRO.out _ _ _ _ _ _ _ hi1 hA hx (fun Sb' M V4 W4 ad cp hsub hi4 l4 hG => ?_)
    replace hA := rdA_ltr hi1.pr hA l4
    clear hT hRO hi1 hret0
    have hT := clo_la (P := Try.prog) (Sb := Sb') (Post := Post)
    have hret1 := hid (hret.out Sb')
    have hrow := hid (fun g hg => rootsV_row (f := xs) (g := g) hg)
    have hlaw := hid (fun g hg => roots_law (f := xs) (g := g) hg)
    have hLl : (rootsV xs).length ≤ 1000 := rootsV_len xs
    have hgl := hid (fun k (hk : k < (rootsV xs).length) => show (gl (rootsV xs) k).length ≤ 1048577 by have := (hrow.out _ (glmem hk)).2.1; have := (hrow.out _ (glmem hk)).2.2.1; omega)
    have CR := hid (fun (v w : World) (hp : PR Sb' v w) (hA : RdA v A xs) => sRootsOf_la (Post := Post) (c := c) hp hA hx)
    have CM := hid (fun (v w : World) (B : Option Addr) (d : Nat) (hp : PR Sb' v w) (hA : RdRR v ad (rootsV xs)) (hB : RdRR v B (rootsV xs)) => sameRows_la (Post := Post) (c := cp) (d := d) hp hA hB (by omega) (by omega) hgl.out hgl.out)
    have CB := hid (fun (v w : World) (D : Option Addr) (d' : Nat) (g : List Int) (hg : g ∈ rootsV xs) (hp : PR Sb' v w) (hD : RdA v D g) => behindOf_la (Post := Post) (c := d') (d := d') hp hD hD (by have := (hrow.out g hg).2.1; have := (hrow.out g hg).2.2.1; omega) (by have := (hrow.out g hg).2.1; have := (hrow.out g hg).2.2.1; omega))
    have CI := hid (fun (v w : World) (B : Option Addr) (d : Nat) (hp : PR Sb' v w) (hB : RdA v B xs) (hA : RdA v A xs) => sameInts_la (Post := Post) (c := d) (d := c) hp hB hA hx hx)
    have CW := hid (fun (v w : World) (D : Option Addr) (d' : Nat) (g : List Int) (hg : g ∈ rootsV xs) (hp : PR Sb' v w) (hD : RdA v D g) (hA : RdA v A xs) => withOk_la (Post := Post) (c := d') (d := c) hp hD hA (by have := (hrow.out g hg).2.1; have := (hrow.out g hg).2.2.1; omega) hx)
    have CO := hid (fun (v w : World) (D : Option Addr) (d' : Nat) (g : List Int) (j : Nat) (hg : g.length ≤ 1048577) (hp : PR Sb' v w) (hD : RdA v D g) => onLoop_la (Post := Post) (c := d') (t := (j : Int)) hp hD hg)
    have CA := hid (fun (v w : World) (hp : PR Sb' v w) => alive_la (Post := Post) hp)
    simp only [decide_true] at CM CI
    unfold CLA at CR CM CB CI CW CO CA
    have hRR := hG.rd
    clear hG l4 hsub M
    generalize rootsV xs = L at *
    generalize LA Try.prog Sb' Post = T2 at hT hret1 CR CM CB CI CW CO CA ⊢
    rw [Frame.finish_atR]
    try walk_nrm
    refine t_op hT rfl (by rfl) (by first | decide | assumption) (by first | rfl | (rw [hro]; rfl)) (fun w₁ hR K hK => ?_)
    obtain ⟨d, rfl⟩ := hR
    go_simp
    try (unfold stored; go_simp)
    try go_ints
    refine hK _ _ () (da_nil (listed_nil (by simp [go_sem, *])) (Nat.le_refl _)) ?_
    clear hK K
    try simp only [at_alloc, at_set, at_heap]
    refine la_strip hT ?_
    try walk_nrm
    repeat (first | refine t_seq hT ?_ | refine t_block hT ?_ | refine t_skip hT ?_ | refine t_inBlock hT ?_ | refine t_rend hT ?_ | refine t_exit hT rfl ?_)
    refine t_region hT [0, 1, 2, 3, 4] rfl ?_
    refine t_op hT rfl (by rfl) (by first | decide | assumption) (by first | rfl | (rw [hro]; rfl)) (fun w₁ hR K hK => ?_)
    obtain ⟨d, rfl⟩ := hR
    go_simp
    try (unfold stored; go_simp)
    try go_ints
    refine hK _ _ () (da_nil (listed_nil (by simp [go_sem, *])) (Nat.le_refl _)) ?_
    clear hK K
    try simp only [at_alloc, at_set, at_heap]
    refine la_strip hT ?_
    try walk_nrm
    refine t_op hT rfl (by rfl) (by first | decide | assumption) (by first | rfl | (rw [hro]; rfl)) (fun w₁ hR K hK => ?_)
    obtain ⟨d, rfl⟩ := hR
    go_simp
    try (unfold stored; go_simp)
    try go_ints
    refine hK _ _ () (da_nil (listed_nil (by simp [go_sem, *])) (Nat.le_refl _)) ?_
    clear hK K
    try simp only [at_alloc, at_set, at_heap]
    refine la_strip hT ?_
    try walk_nrm
    refine t_call hT rfl (by rfl) (by first | decide | assumption) (by first | rfl | (rw [hro]; rfl)) rfl Try.func9 (by rfl) rfl (by walk_nrm; exact CR.out _ _ hi4.pr hA) ?_
    rintro _ ⟨⟩ W5 ⟨ht, V5, hp, ⟨⟨⟨B5, d5⟩, rfl, hB5⟩, l⟩⟩
    try walk_nrm
    have hi5 := hi4.ltr l hp ht
    replace hA := rdA_ltr hi4.pr hA l
    replace hRR := hRR.ltr hi4.pr l
    clear ht hp l hi4 CR
    refine t_call hT rfl (by rfl) (by first | decide | assumption) (by first | rfl | (rw [hro]; rfl)) rfl Try.func20 (by rfl) rfl (by walk_nrm; exact CM.out _ _ _ _ hi5.pr hRR hB5) ?_
    rintro _ ⟨⟩ W6 ⟨ht, V6, hp, rfl, l⟩
    try walk_nrm
    have hi6 := hi5.ltr l hp ht
    replace hA := rdA_ltr hi5.pr hA l
    replace hRR := hRR.ltr hi5.pr l
    clear ht hp l hi5 CM hB5
    refine t_op hT rfl (by rfl) (by first | decide | assumption) (by first | rfl | (rw [hro]; rfl)) (fun w₁ hR K hK => ?_)
    obtain ⟨d, rfl⟩ := hR
    go_simp
    try (unfold stored; go_simp)
    try go_ints
    refine hK _ _ () (da_nil (listed_nil (by simp [go_sem, *])) (Nat.le_refl _)) ?_
    clear hK K
    try simp only [at_alloc, at_set, at_heap]
    refine la_strip hT ?_
    try walk_nrm
    repeat (first | refine t_seq hT ?_ | refine t_block hT ?_ | refine t_skip hT ?_ | refine t_inBlock hT ?_ | refine t_rend hT ?_ | refine t_exit hT rfl ?_)
    refine t_cond hT (t := _) rfl ?_
    simp only [if_true, if_false, reduceIte, Bool.false_eq_true, *]
    repeat (first | refine t_seq hT ?_ | refine t_block hT ?_ | refine t_skip hT ?_ | refine t_inBlock hT ?_ | refine t_rend hT ?_ | refine t_exit hT rfl ?_)
    refine t_region hT [0] rfl ?_
    refine t_op hT rfl (by rfl) (by first | decide | assumption) (by first | rfl | (rw [hro]; rfl)) (fun w₁ hR K hK => ?_)
    obtain ⟨d, rfl⟩ := hR
    go_simp
    try (unfold stored; go_simp)
    try go_ints
    refine hK _ _ () (da_nil (listed_nil (by simp [go_sem, *])) (Nat.le_refl _)) ?_
    clear hK K
    try simp only [at_alloc, at_set, at_heap]
    refine la_strip hT ?_
    try walk_nrm
    repeat (first | refine t_seq hT ?_ | refine t_block hT ?_ | refine t_skip hT ?_ | refine t_inBlock hT ?_ | refine t_rend hT ?_ | refine t_exit hT rfl ?_)
    refine loop_begin hT (m := L.length) (fun m a' w' => a'.defers = [] ∧ a'.tmps.size = 63 ∧ a'.tmps.getD 3 undef = .slice A xs.length c ∧ a'.tmps.getD 4 undef = .slice ad L.length cp ∧ ∃ k : Nat, k ≤ L.length ∧ a'.tmps.getD 5 undef = .int .i64 (k : Int) ∧ m = L.length - k ∧ SV Sb' w (fun v => RdRR v ad L ∧ RdA v A xs) w') ⟨rfl, rfl, rfl, rfl, 0, Nat.zero_le _, rfl, rfl, V6, hi6, hRR, hA⟩ ?_
    clear hi6 hRR hA
    rintro m ⟨tmps, ds⟩ w' ⟨rfl, hsz, h3, h4, k, hkn, h5, rfl, hS⟩ IH
    obtain ⟨J, rfl⟩ : ∃ J : Nat → Value, tmps = #[J 0, J 1, J 2, J 3, J 4, J 5, J 6, J 7, J 8, J 9, J 10, J 11, J 12, J 13, J 14, J 15, J 16, J 17, J 18, J 19, J 20, J 21, J 22, J 23, J 24, J 25, J 26, J 27, J 28, J 29, J 30, J 31, J 32, J 33, J 34, J 35, J 36, J 37, J 38, J 39, J 40, J 41, J 42, J 43, J 44, J 45, J 46, J 47, J 48, J 49, J 50, J 51, J 52, J 53, J 54, J 55, J 56, J 57, J 58, J 59, J 60, J 61, J 62] := ⟨fun i => tmps.getD i undef, (lit tmps).trans (by rw [hsz]; rfl)⟩
    change J 3 = _ at h3
    change J 4 = _ at h4
    change J 5 = _ at h5
    simp only [h3, h4, h5]
    clear hsz h3 h4
    by_cases hlt : k < L.length
    · have hd : decide ((k : Int) < (L.length : Int)) = true := by simp; omega
      have hk1 := hid (show (k : Int) + 1 = ((k + 1 : Nat) : Int) by omega)
      have hgm := glmem hlt
      have hgr := hid (hrow.out _ hgm)
      have hgw := hid (hlaw.out _ hgm)
      obtain ⟨V7, hi7, hRR7, hA7⟩ := hS
      obtain ⟨ad', D, d', rfl, hcl, hrd⟩ := hRR7 k hlt
      have hS : SV Sb' w (RF A xs ad' L k D (gl L k).length d' (gl L k)) w' := ⟨V7, hi7, ⟨hRR7, hA7⟩, hcl, hrd⟩
      clear hi7 hRR7 hA7 hcl hrd V7
      have CBk := hid (fun (v w : World) => CB.out v w D d' (gl L k) hgm)
      have CWk := hid (fun (v w : World) => CW.out v w D d' (gl L k) hgm)
      have COk := hid (fun (v w : World) (j : Nat) => CO.out v w D d' (gl L k) j (by have := hgr.out.2.1; have := hgr.out.2.2.1; omega))
      rw [hgr.out.2.2.2.2] at CBk
      rw [hgw.out.1] at CWk
      have hjj := hid hgw.out.2
      have hcell := hid (fun (F : World → Prop) (hF : ∀ v, F v → v.cell? (ad'.add k) = some (.slice D (gl L k).length d')) (w' : World) (h : SV Sb' w F w') => h.cell hF)
      clear hgw hgr hgm
      generalize gl L k = g at *
      repeat (first | refine t_seq hT ?_ | refine t_block hT ?_ | refine t_skip hT ?_ | refine t_inBlock hT ?_ | refine t_rend hT ?_ | refine t_exit hT rfl ?_)
      refine t_region hT [0, 1, 2, 3] rfl ?_
      refine t_op hT rfl (by rfl) (by first | decide | assumption) (by first | rfl | (rw [hro]; rfl)) (fun w₁ hR K hK => ?_)
      obtain ⟨d, rfl⟩ := hR
      go_simp
      try (unfold stored; go_simp)
      try go_ints
      refine hK _ _ () (da_nil (listed_nil (by simp [go_sem, *])) (Nat.le_refl _)) ?_
      clear hK K
      try simp only [at_alloc, at_set, at_heap]
      refine la_strip hT ?_
      try walk_nrm
      refine t_op hT rfl (by rfl) (by first | decide | assumption) (by first | rfl | (rw [hro]; rfl)) (fun w₁ hR K hK => ?_)
      obtain ⟨d, rfl⟩ := hR
      go_simp
      try (unfold stored; go_simp)
      try go_ints
      refine hK _ _ () (da_nil (listed_nil (by simp [go_sem, *])) (Nat.le_refl _)) ?_
      clear hK K
      try simp only [at_alloc, at_set, at_heap]
      refine la_strip hT ?_
      try walk_nrm
      refine t_op hT rfl (by rfl) (by first | decide | assumption) (by first | rfl | (rw [hro]; rfl)) (fun w₁ hR K hK => ?_)
      obtain ⟨d, rfl⟩ := hR
      go_simp
      try (unfold stored; go_simp)
      try go_ints
      refine hK _ _ () (da_nil (listed_nil (by simp [go_sem, *])) (Nat.le_refl _)) ?_
      clear hK K
      try simp only [at_alloc, at_set, at_heap]
      refine la_strip hT ?_
      try walk_nrm
      refine t_op hT rfl (by rfl) (by first | decide | assumption) (by first | rfl | (rw [hro]; rfl)) (fun w₁ hR K hK => ?_)
      obtain ⟨d, rfl⟩ := hR
      go_simp
      try (unfold stored; go_simp)
      try go_ints
      refine hK _ _ () (da_nil (listed_nil (by simp [go_sem, *])) (Nat.le_refl _)) ?_
      clear hK K
      try simp only [at_alloc, at_set, at_heap]
      refine la_strip hT ?_
      try walk_nrm
      repeat (first | refine t_seq hT ?_ | refine t_block hT ?_ | refine t_skip hT ?_ | refine t_inBlock hT ?_ | refine t_rend hT ?_ | refine t_exit hT rfl ?_)
      refine t_cond hT (t := _) rfl ?_
      simp only [if_true, if_false, reduceIte, Bool.false_eq_true, *]
      repeat (first | refine t_seq hT ?_ | refine t_block hT ?_ | refine t_skip hT ?_ | refine t_inBlock hT ?_ | refine t_rend hT ?_ | refine t_exit hT rfl ?_)
      refine t_drawC hT (S := SV Sb' w (RF A xs ad' L k D g.length d' g)) (fun _ _ h r => h.rely r) (fun _ h => h.drew) (by first | kernel_rfl | rfl) hk hro hS ?_
      clear hS
      refine anyC_take (i := 0) (v := .slice (some ad') L.length cp) rfl (by decide +kernel) (by decide +kernel) (by decide +kernel) (.inl ⟨by rfl, fun _ hw => ⟨run_eq_of (fun K hK => ?_), ?_⟩⟩) ?_
      · skip
        go_simp
        try go_ints
        exact hK
      · skip
        rw [listed_nil (by simp [go_sem, *])]; exact hT.idle _ _
      try walk_nrm
      refine anyC_take (i := 1) (v := .int .i64 k) rfl (by decide +kernel) (by decide +kernel) (by decide +kernel) (.inl ⟨by rfl, fun _ hw => ⟨run_eq_of (fun K hK => ?_), ?_⟩⟩) ?_
      · skip
        go_simp
        try go_ints
        exact hK
      · skip
        rw [listed_nil (by simp [go_sem, *])]; exact hT.idle _ _
      try walk_nrm
      refine anyC_take (i := 2) (v := .pointer (some (ad'.add k))) rfl (by decide +kernel) (by decide +kernel) (by decide +kernel) (.inl ⟨by rfl, fun _ hw => ⟨run_eq_of (fun K hK => ?_), ?_⟩⟩) ?_
      · skip
        go_simp
        try go_ints
        exact hK
      · skip
        rw [listed_nil (by simp [go_sem, *])]; exact hT.idle _ _
      try walk_nrm
      refine anyC_take (i := 3) (v := .slice D g.length d') rfl (by decide +kernel) (by decide +kernel) (by decide +kernel) (.inl ⟨by rfl, fun _ hw => ⟨run_eq_of (fun K hK => ?_), ?_⟩⟩) ?_
      · have hce := hcell.out _ (fun v q => q.2.1) _ hw
        go_simp
        try go_ints
        exact hK
      · have hce := hcell.out _ (fun v q => q.2.1) _ hw
        refine ⟨Nat.le_refl _, ?_⟩
        co_evs (exact evA_cell hce.2.1 hce.2.2)
      try walk_nrm
      refine anyC_take (i := 4) (v := .slice (some ad') L.length cp) rfl (by decide +kernel) (by decide +kernel) (by decide +kernel) (.inl ⟨by rfl, fun _ hw => ⟨run_eq_of (fun K hK => ?_), ?_⟩⟩) ?_
      · skip
        go_simp
        try go_ints
        exact hK
      · skip
        rw [listed_nil (by simp [go_sem, *])]; exact hT.idle _ _
      try walk_nrm
      refine anyC_take (i := 5) (v := .int .i64 k) rfl (by decide +kernel) (by decide +kernel) (by decide +kernel) (.inl ⟨by rfl, fun _ hw => ⟨run_eq_of (fun K hK => ?_), ?_⟩⟩) ?_
      · skip
        go_simp
        try go_ints
        exact hK
      · skip
        rw [listed_nil (by simp [go_sem, *])]; exact hT.idle _ _
      try walk_nrm
      refine anyC_take (i := 6) (v := .pointer (some (ad'.add k))) rfl (by decide +kernel) (by decide +kernel) (by decide +kernel) (.inl ⟨by rfl, fun _ hw => ⟨run_eq_of (fun K hK => ?_), ?_⟩⟩) ?_
      · skip
        go_simp
        try go_ints
        exact hK
      · skip
        rw [listed_nil (by simp [go_sem, *])]; exact hT.idle _ _
      try walk_nrm
      refine anyC_take (i := 7) (v := .slice D g.length d') rfl (by decide +kernel) (by decide +kernel) (by decide +kernel) (.inl ⟨by rfl, fun _ hw => ⟨run_eq_of (fun K hK => ?_), ?_⟩⟩) ?_
      · have hce := hcell.out _ (fun v q => q.2.1) _ hw
        go_simp
        try go_ints
        exact hK
      · have hce := hcell.out _ (fun v q => q.2.1) _ hw
        refine ⟨Nat.le_refl _, ?_⟩
        co_evs (exact evA_cell hce.2.1 hce.2.2)
      try walk_nrm
      refine anyC_take (i := 9) (v := .slice A xs.length c) rfl (by decide +kernel) (by decide +kernel) (by decide +kernel) (.inl ⟨by rfl, fun _ hw => ⟨run_eq_of (fun K hK => ?_), ?_⟩⟩) ?_
      · skip
        go_simp
        try go_ints
        exact hK
      · skip
        rw [listed_nil (by simp [go_sem, *])]; exact hT.idle _ _
      try walk_nrm
      refine anyC_call (i := 8) (by decide +kernel) rfl (by rfl) (by rfl) Try.func25 rfl rfl (fun i : Option Addr × Nat => .slice i.1 xs.length i.2) (fun i => SV Sb' w (fun v => RF A xs ad' L k D g.length d' g v ∧ RdA v i.1 xs)) (fun _ _ h => h.mono fun _ q => q.1) (fun _ _ _ h r => h.rely r) (fun w9 hw => ?_) ?_
      · walk_nrm
        refine CallsT.mono (sv_call (val := fun i : Option Addr × Nat => .slice i.1 xs.length i.2) stb_rf hw (fun v hp hf => CBk.out v w9 hp hf.2.2) (fun _ _ _ h => h)) (fun _ _ _ q => ?_)
        first | exact q | exact ⟨trivial, q.2⟩
      rintro ⟨B8, d8⟩
      try walk_nrm
      refine anyC_call (i := 10) (by decide +kernel) rfl (by rfl) (by rfl) Try.func22 rfl rfl (fun _ : Unit => .bool true) (fun _ => SV Sb' w (fun v => (RF A xs ad' L k D g.length d' g v ∧ RdA v B8 xs) ∧ True)) (fun _ _ h => h.mono fun _ q => q.1) (fun _ _ _ h r => h.rely r) (fun w9 hw => ?_) ?_
      · walk_nrm
        refine CallsT.mono (sv_call (val := fun _ : Unit => .bool true) (G := fun _ _ => True) (stb_rf.and stb_rd) hw (fun v hp hf => CI.out v w9 B8 d8 hp hf.2 hf.1.1.2) (fun _ _ _ h => ⟨⟨(), h.1, trivial⟩, h.2⟩)) (fun _ _ _ q => ?_)
        first | exact q | exact ⟨trivial, q.2⟩
      rintro -
      try walk_nrm
      refine anyC_take (i := 11) (v := .bool false) rfl (by decide +kernel) (by decide +kernel) (by decide +kernel) (.inl ⟨by rfl, fun _ hw => ⟨run_eq_of (fun K hK => ?_), ?_⟩⟩) ?_
      · skip
        go_simp
        try go_ints
        exact hK
      · skip
        rw [listed_nil (by simp [go_sem, *])]; exact hT.idle _ _
      try walk_nrm
      refine anyC_take (i := 12) (v := .bool false) rfl (by decide +kernel) (by decide +kernel) (by decide +kernel) (.inl ⟨by rfl, fun _ hw => ⟨run_eq_of (fun K hK => ?_), ?_⟩⟩) ?_
      · skip
        go_simp
        try go_ints
        exact hK
      · skip
        rw [listed_nil (by simp [go_sem, *])]; exact hT.idle _ _
      try walk_nrm
      refine anyC_take (i := 13) (v := .slice (some ad') L.length cp) rfl (by decide +kernel) (by decide +kernel) (by decide +kernel) (.inl ⟨by rfl, fun _ hw => ⟨run_eq_of (fun K hK => ?_), ?_⟩⟩) ?_
      · skip
        go_simp
        try go_ints
        exact hK
      · skip
        rw [listed_nil (by simp [go_sem, *])]; exact hT.idle _ _
      try walk_nrm
      refine anyC_take (i := 14) (v := .int .i64 k) rfl (by decide +kernel) (by decide +kernel) (by decide +kernel) (.inl ⟨by rfl, fun _ hw => ⟨run_eq_of (fun K hK => ?_), ?_⟩⟩) ?_
      · skip
        go_simp
        try go_ints
        exact hK
      · skip
        rw [listed_nil (by simp [go_sem, *])]; exact hT.idle _ _
      try walk_nrm
      refine anyC_take (i := 15) (v := .pointer (some (ad'.add k))) rfl (by decide +kernel) (by decide +kernel) (by decide +kernel) (.inl ⟨by rfl, fun _ hw => ⟨run_eq_of (fun K hK => ?_), ?_⟩⟩) ?_
      · skip
        go_simp
        try go_ints
        exact hK
      · skip
        rw [listed_nil (by simp [go_sem, *])]; exact hT.idle _ _
      try walk_nrm
      refine anyC_take (i := 16) (v := .slice D g.length d') rfl (by decide +kernel) (by decide +kernel) (by decide +kernel) (.inl ⟨by rfl, fun _ hw => ⟨run_eq_of (fun K hK => ?_), ?_⟩⟩) ?_
      · have hce := hcell.out _ (fun v q => q.1.1.2.1) _ hw
        go_simp
        try go_ints
        exact hK
      · have hce := hcell.out _ (fun v q => q.1.1.2.1) _ hw
        refine ⟨Nat.le_refl _, ?_⟩
        co_evs (exact evA_cell hce.2.1 hce.2.2)
      try walk_nrm
      refine anyC_take (i := 17) (v := .slice A xs.length c) rfl (by decide +kernel) (by decide +kernel) (by decide +kernel) (.inl ⟨by rfl, fun _ hw => ⟨run_eq_of (fun K hK => ?_), ?_⟩⟩) ?_
      · skip
        go_simp
        try go_ints
        exact hK
      · skip
        rw [listed_nil (by simp [go_sem, *])]; exact hT.idle _ _
      try walk_nrm
      refine anyC_call (i := 18) (by decide +kernel) rfl (by rfl) (by rfl) Try.func24 rfl rfl (fun _ : Unit => .bool true) (fun _ => SV Sb' w (fun v => ((RF A xs ad' L k D g.length d' g v ∧ RdA v B8 xs) ∧ True) ∧ True)) (fun _ _ h => h.mono fun _ q => q.1) (fun _ _ _ h r => h.rely r) (fun w9 hw => ?_) ?_
      · walk_nrm
        refine CallsT.mono (sv_call (val := fun _ : Unit => .bool true) (G := fun _ _ => True) ((stb_rf.and stb_rd).and stb_true) hw (fun v hp hf => CWk.out v w9 hp hf.1.1.2.2 hf.1.1.1.2) (fun _ _ _ h => ⟨⟨(), h.1, trivial⟩, h.2⟩)) (fun _ _ _ q => ?_)
        first | exact q | exact ⟨trivial, q.2⟩
      rintro -
      try walk_nrm
      refine anyC_take (i := 19) (v := .bool false) rfl (by decide +kernel) (by decide +kernel) (by decide +kernel) (.inl ⟨by rfl, fun _ hw => ⟨run_eq_of (fun K hK => ?_), ?_⟩⟩) ?_
      · skip
        go_simp
        try go_ints
        exact hK
      · skip
        rw [listed_nil (by simp [go_sem, *])]; exact hT.idle _ _
      try walk_nrm
      refine anyC_take (i := 20) (v := .bool false) rfl (by decide +kernel) (by decide +kernel) (by decide +kernel) (.inl ⟨by rfl, fun _ hw => ⟨run_eq_of (fun K hK => ?_), ?_⟩⟩) ?_
      · skip
        go_simp
        try go_ints
        exact hK
      · skip
        rw [listed_nil (by simp [go_sem, *])]; exact hT.idle _ _
      try walk_nrm
      refine anyC_done (by first | kernel_rfl | decide +kernel) (fun w9 hS => ?_) _
      replace hS := hS.mono (F' := RF A xs ad' L k D g.length d' g) (fun v q => q.1.1.1)
      repeat (first | refine t_seq hT ?_ | refine t_block hT ?_ | refine t_skip hT ?_ | refine t_inBlock hT ?_ | refine t_rend hT ?_ | refine t_exit hT rfl ?_)
      refine t_cond hT (t := _) rfl ?_
      simp only [if_true, if_false, reduceIte, Bool.false_eq_true, *]
      repeat (first | refine t_seq hT ?_ | refine t_block hT ?_ | refine t_skip hT ?_ | refine t_inBlock hT ?_ | refine t_rend hT ?_ | refine t_exit hT rfl ?_)
      refine t_region hT [0] rfl ?_
      refine t_op hT rfl (by rfl) (by first | decide | assumption) (by first | rfl | (rw [hro]; rfl)) (fun w₁ hR K hK => ?_)
      obtain ⟨d, rfl⟩ := hR
      go_simp
      try (unfold stored; go_simp)
      try go_ints
      refine hK _ _ () (da_nil (listed_nil (by simp [go_sem, *])) (Nat.le_refl _)) ?_
      clear hK K
      try simp only [at_alloc, at_set, at_heap]
      refine la_strip hT ?_
      try walk_nrm
      repeat (first | refine t_seq hT ?_ | refine t_block hT ?_ | refine t_skip hT ?_ | refine t_inBlock hT ?_ | refine t_rend hT ?_ | refine t_exit hT rfl ?_)
      refine loop_begin hT (m := xs.length) (fun m a' w' => a'.defers = [] ∧ a'.tmps.size = 63 ∧ a'.tmps.getD 3 undef = .slice A xs.length c ∧ a'.tmps.getD 4 undef = .slice (some ad') L.length cp ∧ a'.tmps.getD 5 undef = .int .i64 (k : Int) ∧ ∃ j : Nat, j ≤ xs.length ∧ a'.tmps.getD 6 undef = .int .i64 (j : Int) ∧ m = xs.length - j ∧ SV Sb' w (RF A xs ad' L k D g.length d' g) w') ⟨rfl, rfl, rfl, rfl, rfl, 0, Nat.zero_le _, rfl, rfl, hS⟩ ?_
      clear hS
      rintro m2 ⟨tmps, ds⟩ w2 ⟨rfl, hsz, h3, h4, h5, j, hjn, h6, rfl, hS⟩ IH2
      obtain ⟨J, rfl⟩ : ∃ J : Nat → Value, tmps = #[J 0, J 1, J 2, J 3, J 4, J 5, J 6, J 7, J 8, J 9, J 10, J 11, J 12, J 13, J 14, J 15, J 16, J 17, J 18, J 19, J 20, J 21, J 22, J 23, J 24, J 25, J 26, J 27, J 28, J 29, J 30, J 31, J 32, J 33, J 34, J 35, J 36, J 37, J 38, J 39, J 40, J 41, J 42, J 43, J 44, J 45, J 46, J 47, J 48, J 49, J 50, J 51, J 52, J 53, J 54, J 55, J 56, J 57, J 58, J 59, J 60, J 61, J 62] := ⟨fun i => tmps.getD i undef, (lit tmps).trans (by rw [hsz]; rfl)⟩
      change J 3 = _ at h3
      change J 4 = _ at h4
      change J 5 = _ at h5
      change J 6 = _ at h6
      simp only [h3, h4, h5, h6]
      clear hsz h3 h4 h5
      by_cases hlj : j < xs.length
      · have hdj : decide ((j : Int) < (xs.length : Int)) = true := by simp; omega
        have hj1 := hid (show (j : Int) + 1 = ((j + 1 : Nat) : Int) by omega)
        have COg := hid (fun (v w : World) => COk.out v w j)
        have COx := hid (fun (v w : World) => CO.out v w A c xs j hx)
        rw [hjj.out j hlj] at COg
        generalize (tailV xs (j : Int) == 0) = bb at *
        have hbb : (bb != bb) = false := by simp
        have hev := hid (fun W => evs_neb2 bb bb W)
        repeat (first | refine t_seq hT ?_ | refine t_block hT ?_ | refine t_skip hT ?_ | refine t_inBlock hT ?_ | refine t_rend hT ?_ | refine t_exit hT rfl ?_)
        refine t_region hT [0, 1, 2, 3] rfl ?_
        refine t_op hT rfl (by rfl) (by first | decide | assumption) (by first | rfl | (rw [hro]; rfl)) (fun w₁ hR K hK => ?_)
        obtain ⟨d, rfl⟩ := hR
        go_simp
        try (unfold stored; go_simp)
        try go_ints
        refine hK _ _ () (da_nil (listed_nil (by simp [go_sem, *])) (Nat.le_refl _)) ?_
        clear hK K
        try simp only [at_alloc, at_set, at_heap]
        refine la_strip hT ?_
        try walk_nrm
        refine t_op hT rfl (by rfl) (by first | decide | assumption) (by first | rfl | (rw [hro]; rfl)) (fun w₁ hR K hK => ?_)
        obtain ⟨d, rfl⟩ := hR
        go_simp
        try (unfold stored; go_simp)
        try go_ints
        refine hK _ _ () (da_nil (listed_nil (by simp [go_sem, *])) (Nat.le_refl _)) ?_
        clear hK K
        try simp only [at_alloc, at_set, at_heap]
        refine la_strip hT ?_
        try walk_nrm
        refine t_op hT rfl (by rfl) (by first | decide | assumption) (by first | rfl | (rw [hro]; rfl)) (fun w₁ hR K hK => ?_)
        obtain ⟨d, rfl⟩ := hR
        go_simp
        try (unfold stored; go_simp)
        try go_ints
        refine hK _ _ () (da_nil (listed_nil (by simp [go_sem, *])) (Nat.le_refl _)) ?_
        clear hK K
        try simp only [at_alloc, at_set, at_heap]
        refine la_strip hT ?_
        try walk_nrm
        refine t_op hT rfl (by rfl) (by first | decide | assumption) (by first | rfl | (rw [hro]; rfl)) (fun w₁ hR K hK => ?_)
        obtain ⟨d, rfl⟩ := hR
        go_simp
        try (unfold stored; go_simp)
        try go_ints
        refine hK _ _ () (da_nil (listed_nil (by simp [go_sem, *])) (Nat.le_refl _)) ?_
        clear hK K
        try simp only [at_alloc, at_set, at_heap]
        refine la_strip hT ?_
        try walk_nrm
        repeat (first | refine t_seq hT ?_ | refine t_block hT ?_ | refine t_skip hT ?_ | refine t_inBlock hT ?_ | refine t_rend hT ?_ | refine t_exit hT rfl ?_)
        refine t_cond hT (t := _) rfl ?_
        simp only [if_true, if_false, reduceIte, Bool.false_eq_true, *]
        repeat (first | refine t_seq hT ?_ | refine t_block hT ?_ | refine t_skip hT ?_ | refine t_inBlock hT ?_ | refine t_rend hT ?_ | refine t_exit hT rfl ?_)
        refine t_drawC hT (S := SV Sb' w (RF A xs ad' L k D g.length d' g)) (fun _ _ h r => h.rely r) (fun _ h => h.drew) (by first | kernel_rfl | rfl) hk hro hS ?_
        clear hS
        refine anyC_take (i := 0) (v := .slice A xs.length c) rfl (by decide +kernel) (by decide +kernel) (by decide +kernel) (.inl ⟨by rfl, fun _ hw => ⟨run_eq_of (fun K hK => ?_), ?_⟩⟩) ?_
        · skip
          go_simp
          try go_ints
          exact hK
        · skip
          rw [listed_nil (by simp [go_sem, *])]; exact hT.idle _ _
        try walk_nrm
        refine anyC_take (i := 1) (v := .int .i64 j) rfl (by decide +kernel) (by decide +kernel) (by decide +kernel) (.inl ⟨by rfl, fun _ hw => ⟨run_eq_of (fun K hK => ?_), ?_⟩⟩) ?_
        · skip
          go_simp
          try go_ints
          exact hK
        · skip
          rw [listed_nil (by simp [go_sem, *])]; exact hT.idle _ _
        try walk_nrm
        refine anyC_take (i := 3) (v := .slice (some ad') L.length cp) rfl (by decide +kernel) (by decide +kernel) (by decide +kernel) (.inl ⟨by rfl, fun _ hw => ⟨run_eq_of (fun K hK => ?_), ?_⟩⟩) ?_
        · skip
          go_simp
          try go_ints
          exact hK
        · skip
          rw [listed_nil (by simp [go_sem, *])]; exact hT.idle _ _
        try walk_nrm
        refine anyC_take (i := 4) (v := .int .i64 k) rfl (by decide +kernel) (by decide +kernel) (by decide +kernel) (.inl ⟨by rfl, fun _ hw => ⟨run_eq_of (fun K hK => ?_), ?_⟩⟩) ?_
        · skip
          go_simp
          try go_ints
          exact hK
        · skip
          rw [listed_nil (by simp [go_sem, *])]; exact hT.idle _ _
        try walk_nrm
        refine anyC_take (i := 5) (v := .pointer (some (ad'.add k))) rfl (by decide +kernel) (by decide +kernel) (by decide +kernel) (.inl ⟨by rfl, fun _ hw => ⟨run_eq_of (fun K hK => ?_), ?_⟩⟩) ?_
        · skip
          go_simp
          try go_ints
          exact hK
        · skip
          rw [listed_nil (by simp [go_sem, *])]; exact hT.idle _ _
        try walk_nrm
        refine anyC_take (i := 6) (v := .slice D g.length d') rfl (by decide +kernel) (by decide +kernel) (by decide +kernel) (.inl ⟨by rfl, fun _ hw => ⟨run_eq_of (fun K hK => ?_), ?_⟩⟩) ?_
        · have hce := hcell.out _ (fun v q => q.2.1) _ hw
          go_simp
          try go_ints
          exact hK
        · have hce := hcell.out _ (fun v q => q.2.1) _ hw
          refine ⟨Nat.le_refl _, ?_⟩
          co_evs (exact evA_cell hce.2.1 hce.2.2)
        try walk_nrm
        refine anyC_take (i := 7) (v := .int .i64 j) rfl (by decide +kernel) (by decide +kernel) (by decide +kernel) (.inl ⟨by rfl, fun _ hw => ⟨run_eq_of (fun K hK => ?_), ?_⟩⟩) ?_
        · skip
          go_simp
          try go_ints
          exact hK
        · skip
          rw [listed_nil (by simp [go_sem, *])]; exact hT.idle _ _
        try walk_nrm
        refine anyC_call (i := 2) (by decide +kernel) rfl (by rfl) (by rfl) Try.func27 rfl rfl (fun _ : Unit => .bool bb) (fun _ => SV Sb' w (fun v => RF A xs ad' L k D g.length d' g v ∧ True)) (fun _ _ h => h.mono fun _ q => q.1) (fun _ _ _ h r => h.rely r) (fun w9 hw => ?_) ?_
        · walk_nrm
          refine CallsT.mono (sv_call (val := fun _ : Unit => .bool bb) (G := fun _ _ => True) stb_rf hw (fun v hp hf => COx.out v w9 hp hf.1.2) (fun _ _ _ h => ⟨⟨(), h.1, trivial⟩, h.2⟩)) (fun _ _ _ q => ?_)
          first | exact q | exact ⟨trivial, q.2⟩
        rintro -
        try walk_nrm
        refine anyC_call (i := 8) (by decide +kernel) rfl (by rfl) (by rfl) Try.func27 rfl rfl (fun _ : Unit => .bool bb) (fun _ => SV Sb' w (fun v => (RF A xs ad' L k D g.length d' g v ∧ True) ∧ True)) (fun _ _ h => h.mono fun _ q => q.1) (fun _ _ _ h r => h.rely r) (fun w9 hw => ?_) ?_
        · walk_nrm
          refine CallsT.mono (sv_call (val := fun _ : Unit => .bool bb) (G := fun _ _ => True) (stb_rf.and stb_true) hw (fun v hp hf => COg.out v w9 hp hf.1.2.2) (fun _ _ _ h => ⟨⟨(), h.1, trivial⟩, h.2⟩)) (fun _ _ _ q => ?_)
          first | exact q | exact ⟨trivial, q.2⟩
        rintro -
        try walk_nrm
        refine anyC_take (i := 9) (v := .bool false) rfl (by decide +kernel) (by decide +kernel) (by decide +kernel) (.inl ⟨by rfl, fun _ hw => ⟨run_eq_of (fun K hK => ?_), ?_⟩⟩) ?_
        · have hevw := fun W => hev.out W
          go_simp
          try go_ints
          exact hK
        · have hevw := fun W => hev.out W
          rw [listed_nil (by simp [go_sem, *])]; exact hT.idle _ _
        try walk_nrm
        refine anyC_done (by first | kernel_rfl | decide +kernel) (fun w9 hS => ?_) _
        repeat (first | refine t_seq hT ?_ | refine t_block hT ?_ | refine t_skip hT ?_ | refine t_inBlock hT ?_ | refine t_rend hT ?_ | refine t_exit hT rfl ?_)
        refine t_cond hT (t := _) rfl ?_
        simp only [if_true, if_false, reduceIte, Bool.false_eq_true, *]
        repeat (first | refine t_seq hT ?_ | refine t_block hT ?_ | refine t_skip hT ?_ | refine t_inBlock hT ?_ | refine t_rend hT ?_ | refine t_exit hT rfl ?_)
        refine t_region hT [0, 1, 2] rfl ?_
        refine t_op hT rfl (by rfl) (by first | decide | assumption) (by first | rfl | (rw [hro]; rfl)) (fun w₁ hR K hK => ?_)
        obtain ⟨d, rfl⟩ := hR
        go_simp
        try (unfold stored; go_simp)
        try go_ints
        refine hK _ _ () (da_nil (listed_nil (by simp [go_sem, *])) (Nat.le_refl _)) ?_
        clear hK K
        try simp only [at_alloc, at_set, at_heap]
        refine la_strip hT ?_
        try walk_nrm
        refine t_op hT rfl (by rfl) (by first | decide | assumption) (by first | rfl | (rw [hro]; rfl)) (fun w₁ hR K hK => ?_)
        obtain ⟨d, rfl⟩ := hR
        go_simp
        try (unfold stored; go_simp)
        try go_ints
        refine hK _ _ () (da_nil (listed_nil (by simp [go_sem, *])) (Nat.le_refl _)) ?_
        clear hK K
        try simp only [at_alloc, at_set, at_heap]
        refine la_strip hT ?_
        try walk_nrm
        refine t_op hT rfl (by rfl) (by first | decide | assumption) (by first | rfl | (rw [hro]; rfl)) (fun w₁ hR K hK => ?_)
        obtain ⟨d, rfl⟩ := hR
        go_simp
        try (unfold stored; go_simp)
        try go_ints
        refine hK _ _ () (da_nil (listed_nil (by simp [go_sem, *])) (Nat.le_refl _)) ?_
        clear hK K
        try simp only [at_alloc, at_set, at_heap]
        refine la_strip hT ?_
        try walk_nrm
        repeat (first | refine t_seq hT ?_ | refine t_block hT ?_ | refine t_skip hT ?_ | refine t_inBlock hT ?_ | refine t_rend hT ?_ | refine t_exit hT rfl ?_)
        exact IH2 _ _ _ (by omega) ⟨rfl, rfl, rfl, rfl, rfl, j + 1, by omega, congrArg (Value.int .i64) hj1.out, rfl, hS.mono fun v q => q.1.1⟩
      · have hdj : decide ((j : Int) < (xs.length : Int)) = false := by simp; omega
        repeat (first | refine t_seq hT ?_ | refine t_block hT ?_ | refine t_skip hT ?_ | refine t_inBlock hT ?_ | refine t_rend hT ?_ | refine t_exit hT rfl ?_)
        refine t_region hT [0, 1, 2, 3] rfl ?_
        refine t_op hT rfl (by rfl) (by first | decide | assumption) (by first | rfl | (rw [hro]; rfl)) (fun w₁ hR K hK => ?_)
        obtain ⟨d, rfl⟩ := hR
        go_simp
        try (unfold stored; go_simp)
        try go_ints
        refine hK _ _ () (da_nil (listed_nil (by simp [go_sem, *])) (Nat.le_refl _)) ?_
        clear hK K
        try simp only [at_alloc, at_set, at_heap]
        refine la_strip hT ?_
        try walk_nrm
        refine t_op hT rfl (by rfl) (by first | decide | assumption) (by first | rfl | (rw [hro]; rfl)) (fun w₁ hR K hK => ?_)
        obtain ⟨d, rfl⟩ := hR
        go_simp
        try (unfold stored; go_simp)
        try go_ints
        refine hK _ _ () (da_nil (listed_nil (by simp [go_sem, *])) (Nat.le_refl _)) ?_
        clear hK K
        try simp only [at_alloc, at_set, at_heap]
        refine la_strip hT ?_
        try walk_nrm
        refine t_op hT rfl (by rfl) (by first | decide | assumption) (by first | rfl | (rw [hro]; rfl)) (fun w₁ hR K hK => ?_)
        obtain ⟨d, rfl⟩ := hR
        go_simp
        try (unfold stored; go_simp)
        try go_ints
        refine hK _ _ () (da_nil (listed_nil (by simp [go_sem, *])) (Nat.le_refl _)) ?_
        clear hK K
        try simp only [at_alloc, at_set, at_heap]
        refine la_strip hT ?_
        try walk_nrm
        refine t_op hT rfl (by rfl) (by first | decide | assumption) (by first | rfl | (rw [hro]; rfl)) (fun w₁ hR K hK => ?_)
        obtain ⟨d, rfl⟩ := hR
        go_simp
        try (unfold stored; go_simp)
        try go_ints
        refine hK _ _ () (da_nil (listed_nil (by simp [go_sem, *])) (Nat.le_refl _)) ?_
        clear hK K
        try simp only [at_alloc, at_set, at_heap]
        refine la_strip hT ?_
        try walk_nrm
        repeat (first | refine t_seq hT ?_ | refine t_block hT ?_ | refine t_skip hT ?_ | refine t_inBlock hT ?_ | refine t_rend hT ?_ | refine t_exit hT rfl ?_)
        refine t_cond hT (t := _) rfl ?_
        simp only [if_true, if_false, reduceIte, Bool.false_eq_true, *]
        repeat (first | refine t_seq hT ?_ | refine t_block hT ?_ | refine t_skip hT ?_ | refine t_inBlock hT ?_ | refine t_rend hT ?_ | refine t_exit hT rfl ?_)
        refine t_region hT [0, 1, 2] rfl ?_
        refine t_op hT rfl (by rfl) (by first | decide | assumption) (by first | rfl | (rw [hro]; rfl)) (fun w₁ hR K hK => ?_)
        obtain ⟨d, rfl⟩ := hR
        go_simp
        try (unfold stored; go_simp)
        try go_ints
        refine hK _ _ () (da_nil (listed_nil (by simp [go_sem, *])) (Nat.le_refl _)) ?_
        clear hK K
        try simp only [at_alloc, at_set, at_heap]
        refine la_strip hT ?_
        try walk_nrm
        refine t_op hT rfl (by rfl) (by first | decide | assumption) (by first | rfl | (rw [hro]; rfl)) (fun w₁ hR K hK => ?_)
        obtain ⟨d, rfl⟩ := hR
        go_simp
        try (unfold stored; go_simp)
        try go_ints
        refine hK _ _ () (da_nil (listed_nil (by simp [go_sem, *])) (Nat.le_refl _)) ?_
        clear hK K
        try simp only [at_alloc, at_set, at_heap]
        refine la_strip hT ?_
        try walk_nrm
        refine t_op hT rfl (by rfl) (by first | decide | assumption) (by first | rfl | (rw [hro]; rfl)) (fun w₁ hR K hK => ?_)
        obtain ⟨d, rfl⟩ := hR
        go_simp
        try (unfold stored; go_simp)
        try go_ints
        refine hK _ _ () (da_nil (listed_nil (by simp [go_sem, *])) (Nat.le_refl _)) ?_
        clear hK K
        try simp only [at_alloc, at_set, at_heap]
        refine la_strip hT ?_
        try walk_nrm
        repeat (first | refine t_seq hT ?_ | refine t_block hT ?_ | refine t_skip hT ?_ | refine t_inBlock hT ?_ | refine t_rend hT ?_ | refine t_exit hT rfl ?_)
        exact IH _ _ _ (by omega) ⟨rfl, rfl, rfl, rfl, k + 1, by omega, congrArg (Value.int .i64) hk1.out, rfl, hS.mono fun v q => q.1⟩
    · have hd : decide ((k : Int) < (L.length : Int)) = false := by simp; omega
      obtain rfl : k = L.length := by omega
      repeat (first | refine t_seq hT ?_ | refine t_block hT ?_ | refine t_skip hT ?_ | refine t_inBlock hT ?_ | refine t_rend hT ?_ | refine t_exit hT rfl ?_)
      refine t_region hT [0, 1, 2, 3] rfl ?_
      refine t_op hT rfl (by rfl) (by first | decide | assumption) (by first | rfl | (rw [hro]; rfl)) (fun w₁ hR K hK => ?_)
      obtain ⟨d, rfl⟩ := hR
      go_simp
      try (unfold stored; go_simp)
      try go_ints
      refine hK _ _ () (da_nil (listed_nil (by simp [go_sem, *])) (Nat.le_refl _)) ?_
      clear hK K
      try simp only [at_alloc, at_set, at_heap]
      refine la_strip hT ?_
      try walk_nrm
      refine t_op hT rfl (by rfl) (by first | decide | assumption) (by first | rfl | (rw [hro]; rfl)) (fun w₁ hR K hK => ?_)
      obtain ⟨d, rfl⟩ := hR
      go_simp
      try (unfold stored; go_simp)
      try go_ints
      refine hK _ _ () (da_nil (listed_nil (by simp [go_sem, *])) (Nat.le_refl _)) ?_
      clear hK K
      try simp only [at_alloc, at_set, at_heap]
      refine la_strip hT ?_
      try walk_nrm
      refine t_op hT rfl (by rfl) (by first | decide | assumption) (by first | rfl | (rw [hro]; rfl)) (fun w₁ hR K hK => ?_)
      obtain ⟨d, rfl⟩ := hR
      go_simp
      try (unfold stored; go_simp)
      try go_ints
      refine hK _ _ () (da_nil (listed_nil (by simp [go_sem, *])) (Nat.le_refl _)) ?_
      clear hK K
      try simp only [at_alloc, at_set, at_heap]
      refine la_strip hT ?_
      try walk_nrm
      refine t_op hT rfl (by rfl) (by first | decide | assumption) (by first | rfl | (rw [hro]; rfl)) (fun w₁ hR K hK => ?_)
      obtain ⟨d, rfl⟩ := hR
      go_simp
      try (unfold stored; go_simp)
      try go_ints
      refine hK _ _ () (da_nil (listed_nil (by simp [go_sem, *])) (Nat.le_refl _)) ?_
      clear hK K
      try simp only [at_alloc, at_set, at_heap]
      refine la_strip hT ?_
      try walk_nrm
      repeat (first | refine t_seq hT ?_ | refine t_block hT ?_ | refine t_skip hT ?_ | refine t_inBlock hT ?_ | refine t_rend hT ?_ | refine t_exit hT rfl ?_)
      refine t_cond hT (t := _) rfl ?_
      simp only [if_true, if_false, reduceIte, Bool.false_eq_true, *]
      repeat (first | refine t_seq hT ?_ | refine t_block hT ?_ | refine t_skip hT ?_ | refine t_inBlock hT ?_ | refine t_rend hT ?_ | refine t_exit hT rfl ?_)
      refine t_region hT [0, 1] rfl ?_
      obtain ⟨V7, hi7, -⟩ := hS
      refine t_call hT rfl (by rfl) (by first | decide | assumption) (by first | rfl | (rw [hro]; rfl)) rfl Try.func21 (by rfl) rfl (by walk_nrm; exact CA.out _ _ hi7.pr) ?_
      rintro _ ⟨⟩ W8 ⟨ht8, V8, hp, rfl, l⟩
      try walk_nrm
      have hi8 := hi7.ltr l hp ht8
      refine t_op hT rfl (by rfl) (by first | decide | assumption) (by first | rfl | (rw [hro]; rfl)) (fun w₁ hR K hK => ?_)
      obtain ⟨d, rfl⟩ := hR
      go_simp
      try (unfold stored; go_simp)
      try go_ints
      refine hK _ _ () (da_nil (listed_nil (by simp [go_sem, *])) (Nat.le_refl _)) ?_
      clear hK K
      try simp only [at_alloc, at_set, at_heap]
      refine la_strip hT ?_
      try walk_nrm
      refine t_rend hT ?_
      exact hret1.out _ _ _ _ rfl rfl hi8
end
end Go.Proofs.Ytkbfcaaihellfaa
