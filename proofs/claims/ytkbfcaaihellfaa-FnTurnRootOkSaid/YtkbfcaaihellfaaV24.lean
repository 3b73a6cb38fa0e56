/- Steps on the way to the law; each part says what it proves. -/
import Derived.Test.YtkbfcaaihellfaaV23
import Derived.Test.YtkbfcaaihellfaaV22
import Derived.Test.YtkbfcaaihellfaaV11
import Derived.Test.YtkbfcaaihellfaaV10

set_option linter.unusedSimpArgs false

/- The law FnTurnRootOk: its run, on every tape. -/
namespace Go.Proofs.Ytkbfcaaihellfaa
open Go.Conc Go.ConcN Go.ConcN.Gen Go.RowKit Go.Conc.Lib Go.ConcR.Gen
open Go.ConcR (KK wgBlock WgAt stA smA rd wr mk Payload Aside2 DC0)
set_option linter.unusedVariables false
set_option linter.unusedSectionVars false

theorem stepBl {B : Nat} {w w1 w2 : World} (h : Below B w w1) (hB : B ≤ w1.heap.size) (h2 : Below w1.heap.size w1 w2) : Below B w w2 := h.trans (h2.mono hB)
/-- .. with its postcondition as it stands -/
theorem callsQ {Post : Value → World → Prop} {f : FuncId} (hf : plainF f = true) {args : Array Value} {w : World} {Q : Ending → World → Prop} (h : Calls Try.prog f args w Q) (hq : ∀ e w', Q e w' → ∃ v, e = .returned v) :
    CallsT Try.prog (LT Try.prog Post) f args () w (fun v _ w' => Q (.returned v) w') :=
  callsL hf h fun e w' hQ => let ⟨v, e1⟩ := hq e w' hQ; ⟨v, e1, e1 ▸ hQ⟩
/-- THE RETURN of the law, alone. -/
theorem lt_ret {Post : Value → World → Prop} {f : FuncId} {fn : Func} {t : Tmp} {a : Act} {k : List Item} {w : World} {v : Value} (hd : a.defers = []) (hf : Try.prog.funcs[f]? = some fn) (hr : fn.results = #[.tmp t]) (hi : Try.prog.inits.idxOf? f = none) (hv : a.tmps.getD t undef = v) (hp : Post v w) :
    LT Try.prog Post () (G ((base f).atR a (.code .ret :: k)) []) w := by
  have hT := clo_lt (P := Try.prog) (Post := Post)
  refine hT.ctl (g' := G { (base f).atR a (.code .ret :: k) with mode := .returning } []) rfl (fun w => by rw [Frame.atR_of_none rfl]; exact stepG_ret') ?_
  refine lt_done (w' := w) (es := #[]) (v := v) rfl ?_ (Nat.le_refl _) (by simp) hp
  rw [Frame.atR_of_none rfl]
  exact ret_done hd hf hr hi hv

section
variable {a : Option Addr} {len cap : Nat} {zs : List Int} {w : World}
set_option maxHeartbeats 8000000 in
theorem FnTurnRootOk_lt (h : RowIn .u8 w a len cap zs) : LT Try.prog (fun v w' => v = .bool true ∧ Below w.heap.size w w') () (G (Frame.enter Try.prog 7 #[.slice a len cap] .normal) []) w := by
  have hcap := h.cap
  unfold maxLen at hcap
  obtain ⟨Post, hPost⟩ : ∃ Post : Value → World → Prop, Post = fun v w' => v = .bool true ∧ Below w.heap.size w w' := ⟨_, rfl⟩
  have done := hid (show ∀ w', Below w.heap.size w w' → Post (.bool true) w' from fun w' hb => by rw [hPost]; exact ⟨rfl, hb⟩)
  rw [← hPost]
  clear hPost
  rw [enter_atR _ Try.func7 rfl]
  have hT := clo_lt (P := Try.prog) (Post := Post)
  have hk : (base 7).kind ≠ .early := base_kind _
  have hro : (base 7).roundOf = none := rfl
  have hret := hid (fun (a : Act) (k : List Item) (w' : World) (hd : a.defers = []) (hv : a.tmps.getD 2 undef = .bool true) (hb : Below w.heap.size w w') => lt_ret (Post := Post) (k := k) hd Try.func7 rfl (by kernel_rfl) hv (done.out w' hb))
  have hcl := hid (fun (f : FuncId) (args : Array Value) (w : World) (Q : Ending → World → Prop) (hf : plainF f = true) (h : Calls Try.prog f args w Q) (hq : ∀ e w', Q e w' → ∃ v, e = .returned v) => callsQ (Post := Post) hf h hq)
  have hRo := fun (A : Option Addr) (c : Nat) (xs : List Int) (W : World) (hB : Below w.heap.size w W) (v0 v1 v2 v3 v4 v5 v6 v7 v8 v9 v10 v11 v12 v13 v14 v15 v16 v17 v18 v19 v20 v21 v22 v23 v24 v25 v26 v27 v28 v29 v30 v31 v32 v33 v34 v35 v36 v37 v38 v39 v40 v41 v42 v43 v44 v45 v46 : Value) (ok : Bool) (hA : RdA W A xs) (hm : mapOkB xs = true) (h4 : xs.length ≤ 4) (hri : decide (0 < (rootsL xs).length) = ok) => law_roots (Post := Post) (A := A) (c := c) (xs := xs) (w := W) (fun w' hb => done.out w' (stepBl hB hB.size hb)) v0 v1 v2 v3 v4 v5 v6 v7 v8 v9 v10 v11 v12 v13 v14 v15 v16 v17 v18 v19 v20 v21 v22 v23 v24 v25 v26 v27 v28 v29 v30 v31 v32 v33 v34 v35 v36 v37 v38 v39 v40 v41 v42 v43 v44 v45 v46 ok hA hm h4 hri
  simp only [o7, Try.f7] at hRo
  replace hRo := hid hRo
  generalize LT Try.prog Post = T at hT hret hcl hRo ⊢
  simp only [Try.ntmps7, List.size_toArray, List.length_cons, List.length_nil, Nat.reduceAdd, Nat.reduceSub, Array.replicate_succ, Array.replicate_zero, List.push_toArray, List.append_toArray, List.nil_append, List.cons_append]
  by_cases hbig : 1048576 < len
  · have hd : decide ((1048576 : Int) < (len : Int)) = true := by simp; omega
    repeat (first | refine t_seq hT ?_ | refine t_block hT ?_ | refine t_skip hT ?_ | refine t_inBlock hT ?_ | refine t_rend hT ?_ | refine t_exit hT rfl ?_)
    refine t_region hT [0] rfl ?_
    refine t_op hT rfl (by rfl) (by first | decide | assumption) (by first | rfl | (rw [hro]; rfl)) (fun w₁ hR K hK => ?_)
    have hR2 : _ = w₁ := Eq.symm hR
    subst hR2
    clear hR
    go_simp
    try (unfold stored; go_simp)
    try go_ints
    refine hK _ _ () (dt_nil (listed_nil (by simp [go_sem, *])) (Nat.le_refl _)) ?_
    clear hK K
    try walk_nrm
    repeat (first | refine t_seq hT ?_ | refine t_block hT ?_ | refine t_skip hT ?_ | refine t_inBlock hT ?_ | refine t_rend hT ?_ | refine t_exit hT rfl ?_)
    refine t_region hT [0, 1, 2] rfl ?_
    refine t_op hT rfl (by rfl) (by first | decide | assumption) (by first | rfl | (rw [hro]; rfl)) (fun w₁ hR K hK => ?_)
    have hR2 : _ = w₁ := Eq.symm hR
    subst hR2
    clear hR
    go_simp
    try (unfold stored; go_simp)
    try go_ints
    refine hK _ _ () (dt_nil (listed_nil (by simp [go_sem, *])) (Nat.le_refl _)) ?_
    clear hK K
    try walk_nrm
    refine t_op hT rfl (by rfl) (by first | decide | assumption) (by first | rfl | (rw [hro]; rfl)) (fun w₁ hR K hK => ?_)
    have hR2 : _ = w₁ := Eq.symm hR
    subst hR2
    clear hR
    go_simp
    try (unfold stored; go_simp)
    try go_ints
    refine hK _ _ () (dt_nil (listed_nil (by simp [go_sem, *])) (Nat.le_refl _)) ?_
    clear hK K
    try walk_nrm
    refine t_op hT rfl (by rfl) (by first | decide | assumption) (by first | rfl | (rw [hro]; rfl)) (fun w₁ hR K hK => ?_)
    have hR2 : _ = w₁ := Eq.symm hR
    subst hR2
    clear hR
    go_simp
    try (unfold stored; go_simp)
    try go_ints
    refine hK _ _ () (dt_nil (listed_nil (by simp [go_sem, *])) (Nat.le_refl _)) ?_
    clear hK K
    try walk_nrm
    repeat (first | refine t_seq hT ?_ | refine t_block hT ?_ | refine t_skip hT ?_ | refine t_inBlock hT ?_ | refine t_rend hT ?_ | refine t_exit hT rfl ?_)
    refine t_cond hT (t := _) rfl ?_
    simp only [if_true, if_false, reduceIte, Bool.false_eq_true, *]
    repeat (first | refine t_seq hT ?_ | refine t_block hT ?_ | refine t_skip hT ?_ | refine t_inBlock hT ?_ | refine t_rend hT ?_ | refine t_exit hT rfl ?_)
    refine t_region hT [0] rfl ?_
    refine t_op hT rfl (by rfl) (by first | decide | assumption) (by first | rfl | (rw [hro]; rfl)) (fun w₁ hR K hK => ?_)
    have hR2 : _ = w₁ := Eq.symm hR
    subst hR2
    clear hR
    go_simp
    try (unfold stored; go_simp)
    try go_ints
    refine hK _ _ () (dt_nil (listed_nil (by simp [go_sem, *])) (Nat.le_refl _)) ?_
    clear hK K
    try walk_nrm
    refine t_rend hT ?_
    exact hret.out _ _ _ rfl rfl (Below.refl _ _)
  · have hd : decide ((1048576 : Int) < (len : Int)) = false := by simp; omega
    have hdr := hid (hcl.out 28 _ _ _ (by rfl) (DrawTurnRootOk_c a len cap zs w h (by omega)) (by rintro e w' ⟨xs, A, c, _, rfl, _⟩; exact ⟨_, rfl⟩))
    clear h
    repeat (first | refine t_seq hT ?_ | refine t_block hT ?_ | refine t_skip hT ?_ | refine t_inBlock hT ?_ | refine t_rend hT ?_ | refine t_exit hT rfl ?_)
    refine t_region hT [0] rfl ?_
    refine t_op hT rfl (by rfl) (by first | decide | assumption) (by first | rfl | (rw [hro]; rfl)) (fun w₁ hR K hK => ?_)
    have hR2 : _ = w₁ := Eq.symm hR
    subst hR2
    clear hR
    go_simp
    try (unfold stored; go_simp)
    try go_ints
    refine hK _ _ () (dt_nil (listed_nil (by simp [go_sem, *])) (Nat.le_refl _)) ?_
    clear hK K
    try walk_nrm
    repeat (first | refine t_seq hT ?_ | refine t_block hT ?_ | refine t_skip hT ?_ | refine t_inBlock hT ?_ | refine t_rend hT ?_ | refine t_exit hT rfl ?_)
    refine t_region hT [0, 1, 2] rfl ?_
    refine t_op hT rfl (by rfl) (by first | decide | assumption) (by first | rfl | (rw [hro]; rfl)) (fun w₁ hR K hK => ?_)
    have hR2 : _ = w₁ := Eq.symm hR
    subst hR2
    clear hR
    go_simp
    try (unfold stored; go_simp)
    try go_ints
    refine hK _ _ () (dt_nil (listed_nil (by simp [go_sem, *])) (Nat.le_refl _)) ?_
    clear hK K
    try walk_nrm
    refine t_op hT rfl (by rfl) (by first | decide | assumption) (by first | rfl | (rw [hro]; rfl)) (fun w₁ hR K hK => ?_)
    have hR2 : _ = w₁ := Eq.symm hR
    subst hR2
    clear hR
    go_simp
    try (unfold stored; go_simp)
    try go_ints
    refine hK _ _ () (dt_nil (listed_nil (by simp [go_sem, *])) (Nat.le_refl _)) ?_
    clear hK K
    try walk_nrm
    refine t_op hT rfl (by rfl) (by first | decide | assumption) (by first | rfl | (rw [hro]; rfl)) (fun w₁ hR K hK => ?_)
    have hR2 : _ = w₁ := Eq.symm hR
    subst hR2
    clear hR
    go_simp
    try (unfold stored; go_simp)
    try go_ints
    refine hK _ _ () (dt_nil (listed_nil (by simp [go_sem, *])) (Nat.le_refl _)) ?_
    clear hK K
    try walk_nrm
    repeat (first | refine t_seq hT ?_ | refine t_block hT ?_ | refine t_skip hT ?_ | refine t_inBlock hT ?_ | refine t_rend hT ?_ | refine t_exit hT rfl ?_)
    refine t_cond hT (t := _) rfl ?_
    simp only [if_true, if_false, reduceIte, Bool.false_eq_true, *]
    repeat (first | refine t_seq hT ?_ | refine t_block hT ?_ | refine t_skip hT ?_ | refine t_inBlock hT ?_ | refine t_rend hT ?_ | refine t_exit hT rfl ?_)
    refine t_region hT [0, 1, 2] rfl ?_
    refine t_op hT rfl (by rfl) (by first | decide | assumption) (by first | rfl | (rw [hro]; rfl)) (fun w₁ hR K hK => ?_)
    have hR2 : _ = w₁ := Eq.symm hR
    subst hR2
    clear hR
    go_simp
    try (unfold stored; go_simp)
    try go_ints
    refine hK _ _ () (dt_nil (listed_nil (by simp [go_sem, *])) (Nat.le_refl _)) ?_
    clear hK K
    try walk_nrm
    refine t_call hT rfl (by rfl) (by first | decide | assumption) (by first | rfl | (rw [hro]; rfl)) rfl Try.func28 (by rfl) rfl (by walk_nrm; exact hdr.out) ?_
    rintro _ ⟨⟩ W1 hQ
    try walk_nrm
    obtain ⟨xs, A, c, hx8, hv, of, B1⟩ := hQ
    cases hv
    clear hdr
    have hx : xs.length ≤ 1048577 := by omega
    have CI := hid (fun (A : Option Addr) (c : Nat) (W : World) (r : RdA W A xs) => hcl.out 29 _ _ _ (by rfl) (iTurnRootOk_c A c xs W r hx) (fun e w' h => ⟨_, h.1⟩))
    have CS := hid (fun (A : Option Addr) (c : Nat) (W : World) (r : RdA W A xs) => hcl.out 30 _ _ _ (by rfl) (sTurnRootOk_c A c xs W r hx) (fun e w' h => ⟨_, h.1⟩))
    have CT := hid (fun (A : Option Addr) (c : Nat) (W : World) (r : RdA W A xs) => hcl.out 31 _ _ _ (by rfl) (sTurnedOf_c A c xs W r hx) (by rintro e w' ⟨A, c, rfl, _⟩; exact ⟨_, rfl⟩))
    have CA := hid (fun (W : World) => hcl.out 21 _ _ _ (by rfl) (alive_c W) (fun e w' h => ⟨_, h.1⟩))
    have CB := hid (fun (A : Option Addr) (c : Nat) (W : World) (r : RdA W A xs) => hcl.out 25 _ _ _ (by rfl) (iBehindOf_c A A c c xs xs W r r hx hx) (by rintro e w' ⟨A, c, rfl, _⟩; exact ⟨_, rfl⟩))
    refine t_op hT rfl (by rfl) (by first | decide | assumption) (by first | rfl | (rw [hro]; rfl)) (fun w₁ hR K hK => ?_)
    have hR2 : _ = w₁ := Eq.symm hR
    subst hR2
    clear hR
    go_simp
    try (unfold stored; go_simp)
    try go_ints
    refine hK _ _ () (dt_nil (listed_nil (by simp [go_sem, *])) (Nat.le_refl _)) ?_
    clear hK K
    try walk_nrm
    repeat (first | refine t_seq hT ?_ | refine t_block hT ?_ | refine t_skip hT ?_ | refine t_inBlock hT ?_ | refine t_rend hT ?_ | refine t_exit hT rfl ?_)
    refine t_region hT [0, 1, 2] rfl ?_
    refine t_op hT rfl (by rfl) (by first | decide | assumption) (by first | rfl | (rw [hro]; rfl)) (fun w₁ hR K hK => ?_)
    have hR2 : _ = w₁ := Eq.symm hR
    subst hR2
    clear hR
    go_simp
    try (unfold stored; go_simp)
    try go_ints
    refine hK _ _ () (dt_nil (listed_nil (by simp [go_sem, *])) (Nat.le_refl _)) ?_
    clear hK K
    try walk_nrm
    refine t_call hT rfl (by rfl) (by first | decide | assumption) (by first | rfl | (rw [hro]; rfl)) rfl Try.func29 (by rfl) rfl (by walk_nrm; exact CI.out A c W1 of.rd) ?_
    rintro _ ⟨⟩ W2 hQ
    try walk_nrm
    obtain ⟨hv, b⟩ := hQ
    cases hv
    have B2 := stepBl B1 B1.size b
    replace of := of.below b
    clear b CI
    refine t_op hT rfl (by rfl) (by first | decide | assumption) (by first | rfl | (rw [hro]; rfl)) (fun w₁ hR K hK => ?_)
    have hR2 : _ = w₁ := Eq.symm hR
    subst hR2
    clear hR
    go_simp
    try (unfold stored; go_simp)
    try go_ints
    refine hK _ _ () (dt_nil (listed_nil (by simp [go_sem, *])) (Nat.le_refl _)) ?_
    clear hK K
    try walk_nrm
    repeat (first | refine t_seq hT ?_ | refine t_block hT ?_ | refine t_skip hT ?_ | refine t_inBlock hT ?_ | refine t_rend hT ?_ | refine t_exit hT rfl ?_)
    refine t_region hT [0, 1, 2, 3] rfl ?_
    refine t_op hT rfl (by rfl) (by first | decide | assumption) (by first | rfl | (rw [hro]; rfl)) (fun w₁ hR K hK => ?_)
    have hR2 : _ = w₁ := Eq.symm hR
    subst hR2
    clear hR
    go_simp
    try (unfold stored; go_simp)
    try go_ints
    refine hK _ _ () (dt_nil (listed_nil (by simp [go_sem, *])) (Nat.le_refl _)) ?_
    clear hK K
    try walk_nrm
    refine t_op hT rfl (by rfl) (by first | decide | assumption) (by first | rfl | (rw [hro]; rfl)) (fun w₁ hR K hK => ?_)
    have hR2 : _ = w₁ := Eq.symm hR
    subst hR2
    clear hR
    go_simp
    try (unfold stored; go_simp)
    try go_ints
    refine hK _ _ () (dt_nil (listed_nil (by simp [go_sem, *])) (Nat.le_refl _)) ?_
    clear hK K
    try walk_nrm
    refine t_call hT rfl (by rfl) (by first | decide | assumption) (by first | rfl | (rw [hro]; rfl)) rfl Try.func30 (by rfl) rfl (by walk_nrm; exact CS.out A c W2 of.rd) ?_
    rintro _ ⟨⟩ W3 hQ
    try walk_nrm
    obtain ⟨hv, b⟩ := hQ
    cases hv
    have B3 := stepBl B2 B2.size b
    replace of := of.below b
    clear b CS
    have hev := evs_neb (rootOkB xs) (rootOkB xs) W3
    refine t_op hT rfl (by rfl) (by first | decide | assumption) (by first | rfl | (rw [hro]; rfl)) (fun w₁ hR K hK => ?_)
    have hR2 : _ = w₁ := Eq.symm hR
    subst hR2
    clear hR
    go_simp
    try (unfold stored; go_simp)
    try go_ints
    refine hK _ _ () (dt_nil (listed_nil (by simp [go_sem, *])) (Nat.le_refl _)) ?_
    clear hK K
    try walk_nrm
    clear hev
    repeat (first | refine t_seq hT ?_ | refine t_block hT ?_ | refine t_skip hT ?_ | refine t_inBlock hT ?_ | refine t_rend hT ?_ | refine t_exit hT rfl ?_)
    refine t_cond hT (t := _) rfl ?_
    simp only [if_true, if_false, reduceIte, Bool.false_eq_true, *]
    repeat (first | refine t_seq hT ?_ | refine t_block hT ?_ | refine t_skip hT ?_ | refine t_inBlock hT ?_ | refine t_rend hT ?_ | refine t_exit hT rfl ?_)
    refine t_region hT [0, 1, 2, 3, 4, 5, 6] rfl ?_
    refine t_op hT rfl (by rfl) (by first | decide | assumption) (by first | rfl | (rw [hro]; rfl)) (fun w₁ hR K hK => ?_)
    have hR2 : _ = w₁ := Eq.symm hR
    subst hR2
    clear hR
    go_simp
    try (unfold stored; go_simp)
    try go_ints
    refine hK _ _ () (dt_nil (listed_nil (by simp [go_sem, *])) (Nat.le_refl _)) ?_
    clear hK K
    try walk_nrm
    refine t_call hT rfl (by rfl) (by first | decide | assumption) (by first | rfl | (rw [hro]; rfl)) rfl Try.func31 (by rfl) rfl (by walk_nrm; exact CT.out A c W3 of.rd) ?_
    rintro _ ⟨⟩ W4 hQ
    try walk_nrm
    obtain ⟨Ag, cg, hv, og, b⟩ := hQ
    cases hv
    have B4 := stepBl B3 B3.size b
    replace of := of.below b
    clear b og CT
    refine t_op hT rfl (by rfl) (by first | decide | assumption) (by first | rfl | (rw [hro]; rfl)) (fun w₁ hR K hK => ?_)
    have hR2 : _ = w₁ := Eq.symm hR
    subst hR2
    clear hR
    go_simp
    try (unfold stored; go_simp)
    try go_ints
    refine hK _ _ () (dt_nil (listed_nil (by simp [go_sem, *])) (Nat.le_refl _)) ?_
    clear hK K
    try walk_nrm
    refine t_op hT rfl (by rfl) (by first | decide | assumption) (by first | rfl | (rw [hro]; rfl)) (fun w₁ hR K hK => ?_)
    have hR2 : _ = w₁ := Eq.symm hR
    subst hR2
    clear hR
    go_simp
    try (unfold stored; go_simp)
    try go_ints
    refine hK _ _ () (dt_nil (listed_nil (by simp [go_sem, *])) (Nat.le_refl _)) ?_
    clear hK K
    try walk_nrm
    refine t_op hT rfl (by rfl) (by first | decide | assumption) (by first | rfl | (rw [hro]; rfl)) (fun w₁ hR K hK => ?_)
    have hR2 : _ = w₁ := Eq.symm hR
    subst hR2
    clear hR
    go_simp
    try (unfold stored; go_simp)
    try go_ints
    refine hK _ _ () (dt_nil (listed_nil (by simp [go_sem, *])) (Nat.le_refl _)) ?_
    clear hK K
    try walk_nrm
    refine t_op hT rfl (by rfl) (by first | decide | assumption) (by first | rfl | (rw [hro]; rfl)) (fun w₁ hR K hK => ?_)
    have hR2 : _ = w₁ := Eq.symm hR
    subst hR2
    clear hR
    go_simp
    try (unfold stored; go_simp)
    try go_ints
    refine hK _ _ () (dt_nil (listed_nil (by simp [go_sem, *])) (Nat.le_refl _)) ?_
    clear hK K
    try walk_nrm
    refine t_op hT rfl (by rfl) (by first | decide | assumption) (by first | rfl | (rw [hro]; rfl)) (fun w₁ hR K hK => ?_)
    have hR2 : _ = w₁ := Eq.symm hR
    subst hR2
    clear hR
    go_simp
    try (unfold stored; go_simp)
    try go_ints
    refine hK _ _ () (dt_nil (listed_nil (by simp [go_sem, *])) (Nat.le_refl _)) ?_
    clear hK K
    try walk_nrm
    cases ht : turnedB xs with
    | false =>
      have hok := rootOk_no ht
      rw [hok]
      clear hok
      repeat (first | refine t_seq hT ?_ | refine t_block hT ?_ | refine t_skip hT ?_ | refine t_inBlock hT ?_ | refine t_rend hT ?_ | refine t_exit hT rfl ?_)
      refine t_region hT [0, 1] rfl ?_
      refine t_op hT rfl (by rfl) (by first | decide | assumption) (by first | rfl | (rw [hro]; rfl)) (fun w₁ hR K hK => ?_)
      have hR2 : _ = w₁ := Eq.symm hR
      subst hR2
      clear hR
      go_simp
      try (unfold stored; go_simp)
      try go_ints
      refine hK _ _ () (dt_nil (listed_nil (by simp [go_sem, *])) (Nat.le_refl _)) ?_
      clear hK K
      try walk_nrm
      refine t_op hT rfl (by rfl) (by first | decide | assumption) (by first | rfl | (rw [hro]; rfl)) (fun w₁ hR K hK => ?_)
      have hR2 : _ = w₁ := Eq.symm hR
      subst hR2
      clear hR
      go_simp
      try (unfold stored; go_simp)
      try go_ints
      refine hK _ _ () (dt_nil (listed_nil (by simp [go_sem, *])) (Nat.le_refl _)) ?_
      clear hK K
      try walk_nrm
      repeat (first | refine t_seq hT ?_ | refine t_block hT ?_ | refine t_skip hT ?_ | refine t_inBlock hT ?_ | refine t_rend hT ?_ | refine t_exit hT rfl ?_)
      refine t_cond hT (t := _) rfl ?_
      simp only [if_true, if_false, reduceIte, Bool.false_eq_true, *]
      repeat (first | refine t_seq hT ?_ | refine t_block hT ?_ | refine t_skip hT ?_ | refine t_inBlock hT ?_ | refine t_rend hT ?_ | refine t_exit hT rfl ?_)
      refine t_region hT [0, 1, 2, 3, 4, 5] rfl ?_
      refine t_op hT rfl (by rfl) (by first | decide | assumption) (by first | rfl | (rw [hro]; rfl)) (fun w₁ hR K hK => ?_)
      have hR2 : _ = w₁ := Eq.symm hR
      subst hR2
      clear hR
      go_simp
      try (unfold stored; go_simp)
      try go_ints
      refine hK _ _ () (dt_nil (listed_nil (by simp [go_sem, *])) (Nat.le_refl _)) ?_
      clear hK K
      try walk_nrm
      refine t_op hT rfl (by rfl) (by first | decide | assumption) (by first | rfl | (rw [hro]; rfl)) (fun w₁ hR K hK => ?_)
      have hR2 : _ = w₁ := Eq.symm hR
      subst hR2
      clear hR
      go_simp
      try (unfold stored; go_simp)
      try go_ints
      refine hK _ _ () (dt_nil (listed_nil (by simp [go_sem, *])) (Nat.le_refl _)) ?_
      clear hK K
      try walk_nrm
      refine t_op hT rfl (by rfl) (by first | decide | assumption) (by first | rfl | (rw [hro]; rfl)) (fun w₁ hR K hK => ?_)
      have hR2 : _ = w₁ := Eq.symm hR
      subst hR2
      clear hR
      go_simp
      try (unfold stored; go_simp)
      try go_ints
      refine hK _ _ () (dt_nil (listed_nil (by simp [go_sem, *])) (Nat.le_refl _)) ?_
      clear hK K
      try walk_nrm
      refine t_call hT rfl (by rfl) (by first | decide | assumption) (by first | rfl | (rw [hro]; rfl)) rfl Try.func21 (by rfl) rfl (by walk_nrm; exact CA.out W4) ?_
      rintro _ ⟨⟩ W5 hQ
      try walk_nrm
      obtain ⟨hv, b⟩ := hQ
      cases hv
      have B5 := stepBl B4 B4.size b
      refine t_op hT rfl (by rfl) (by first | decide | assumption) (by first | rfl | (rw [hro]; rfl)) (fun w₁ hR K hK => ?_)
      have hR2 : _ = w₁ := Eq.symm hR
      subst hR2
      clear hR
      go_simp
      try (unfold stored; go_simp)
      try go_ints
      refine hK _ _ () (dt_nil (listed_nil (by simp [go_sem, *])) (Nat.le_refl _)) ?_
      clear hK K
      try walk_nrm
      refine t_op hT rfl (by rfl) (by first | decide | assumption) (by first | rfl | (rw [hro]; rfl)) (fun w₁ hR K hK => ?_)
      have hR2 : _ = w₁ := Eq.symm hR
      subst hR2
      clear hR
      go_simp
      try (unfold stored; go_simp)
      try go_ints
      refine hK _ _ () (dt_nil (listed_nil (by simp [go_sem, *])) (Nat.le_refl _)) ?_
      clear hK K
      try walk_nrm
      refine t_rend hT ?_
      exact hret.out _ _ _ rfl rfl B5
    | true =>
      repeat (first | refine t_seq hT ?_ | refine t_block hT ?_ | refine t_skip hT ?_ | refine t_inBlock hT ?_ | refine t_rend hT ?_ | refine t_exit hT rfl ?_)
      refine t_region hT [0, 1] rfl ?_
      refine t_op hT rfl (by rfl) (by first | decide | assumption) (by first | rfl | (rw [hro]; rfl)) (fun w₁ hR K hK => ?_)
      have hR2 : _ = w₁ := Eq.symm hR
      subst hR2
      clear hR
      go_simp
      try (unfold stored; go_simp)
      try go_ints
      refine hK _ _ () (dt_nil (listed_nil (by simp [go_sem, *])) (Nat.le_refl _)) ?_
      clear hK K
      try walk_nrm
      refine t_op hT rfl (by rfl) (by first | decide | assumption) (by first | rfl | (rw [hro]; rfl)) (fun w₁ hR K hK => ?_)
      have hR2 : _ = w₁ := Eq.symm hR
      subst hR2
      clear hR
      go_simp
      try (unfold stored; go_simp)
      try go_ints
      refine hK _ _ () (dt_nil (listed_nil (by simp [go_sem, *])) (Nat.le_refl _)) ?_
      clear hK K
      try walk_nrm
      repeat (first | refine t_seq hT ?_ | refine t_block hT ?_ | refine t_skip hT ?_ | refine t_inBlock hT ?_ | refine t_rend hT ?_ | refine t_exit hT rfl ?_)
      refine t_cond hT (t := _) rfl ?_
      simp only [if_true, if_false, reduceIte, Bool.false_eq_true, *]
      repeat (first | refine t_seq hT ?_ | refine t_block hT ?_ | refine t_skip hT ?_ | refine t_inBlock hT ?_ | refine t_rend hT ?_ | refine t_exit hT rfl ?_)
      refine t_region hT [0, 1, 2, 3, 4, 5, 6, 7, 8, 9, 10, 11, 12, 13, 14, 15, 16, 17] rfl ?_
      refine t_op hT rfl (by rfl) (by first | decide | assumption) (by first | rfl | (rw [hro]; rfl)) (fun w₁ hR K hK => ?_)
      have hR2 : _ = w₁ := Eq.symm hR
      subst hR2
      clear hR
      go_simp
      try (unfold stored; go_simp)
      try go_ints
      refine hK _ _ () (dt_nil (listed_nil (by simp [go_sem, *])) (Nat.le_refl _)) ?_
      clear hK K
      try walk_nrm
      refine t_op hT rfl (by rfl) (by first | decide | assumption) (by first | rfl | (rw [hro]; rfl)) (fun w₁ hR K hK => ?_)
      have hR2 : _ = w₁ := Eq.symm hR
      subst hR2
      clear hR
      go_simp
      try (unfold stored; go_simp)
      try go_ints
      refine hK _ _ () (dt_nil (listed_nil (by simp [go_sem, *])) (Nat.le_refl _)) ?_
      clear hK K
      try walk_nrm
      refine t_call hT rfl (by rfl) (by first | decide | assumption) (by first | rfl | (rw [hro]; rfl)) rfl Try.func25 (by rfl) rfl (by walk_nrm; exact CB.out A c W4 of.rd) ?_
      rintro _ ⟨⟩ W5 hQ
      try walk_nrm
      obtain ⟨Ab, cb, hv, ob, b, _⟩ := hQ
      cases hv
      have B5 := stepBl B4 B4.size b
      replace of := of.below b
      clear b CB
      have hg := (turnedB_iff.1 ht).1
      have hm : mapOkB xs = true := ok_of hg
      have hl7 : xs.length ≤ 7 := hg.1.2
      have hbl : (behindL xs xs).length = xs.length := (good_behind hg hg rfl).2
      have CI := hid (fun (A : Option Addr) (c : Nat) (W : World) (r : RdA W A (behindL xs xs)) => hcl.out 29 _ _ _ (by rfl) (iTurnRootOk_c A c (behindL xs xs) W r (by rw [hbl]; omega)) (fun e w' h => ⟨_, h.1⟩))
      rw [even_behind ht] at CI
      clear hbl hg
      refine t_call hT rfl (by rfl) (by first | decide | assumption) (by first | rfl | (rw [hro]; rfl)) rfl Try.func29 (by rfl) rfl (by walk_nrm; exact CI.out Ab cb W5 ob.rd) ?_
      rintro _ ⟨⟩ W6 hQ
      try walk_nrm
      obtain ⟨hv, b⟩ := hQ
      cases hv
      have B6 := stepBl B5 B5.size b
      replace of := of.below b
      clear b CI ob
      by_cases h4 : xs.length ≤ 4
      · have hd4 : decide ((4 : Int) < (xs.length : Int)) = false := by simp; omega
        have hri := hid (roots_iff ht h4)
        clear ht
        generalize rootOkB xs = ok at *
        refine t_op hT rfl (by rfl) (by first | decide | assumption) (by first | rfl | (rw [hro]; rfl)) (fun w₁ hR K hK => ?_)
        have hR2 : _ = w₁ := Eq.symm hR
        subst hR2
        clear hR
        go_simp
        try (unfold stored; go_simp)
        try go_ints
        refine hK _ _ () (dt_nil (listed_nil (by simp [go_sem, *])) (Nat.le_refl _)) ?_
        clear hK K
        try walk_nrm
        refine t_op hT rfl (by rfl) (by first | decide | assumption) (by first | rfl | (rw [hro]; rfl)) (fun w₁ hR K hK => ?_)
        have hR2 : _ = w₁ := Eq.symm hR
        subst hR2
        clear hR
        go_simp
        try (unfold stored; go_simp)
        try go_ints
        refine hK _ _ () (dt_nil (listed_nil (by simp [go_sem, *])) (Nat.le_refl _)) ?_
        clear hK K
        try walk_nrm
        refine t_op hT rfl (by rfl) (by first | decide | assumption) (by first | rfl | (rw [hro]; rfl)) (fun w₁ hR K hK => ?_)
        have hR2 : _ = w₁ := Eq.symm hR
        subst hR2
        clear hR
        go_simp
        try (unfold stored; go_simp)
        try go_ints
        refine hK _ _ () (dt_nil (listed_nil (by simp [go_sem, *])) (Nat.le_refl _)) ?_
        clear hK K
        try walk_nrm
        refine t_op hT rfl (by rfl) (by first | decide | assumption) (by first | rfl | (rw [hro]; rfl)) (fun w₁ hR K hK => ?_)
        have hR2 : _ = w₁ := Eq.symm hR
        subst hR2
        clear hR
        go_simp
        try (unfold stored; go_simp)
        try go_ints
        refine hK _ _ () (dt_nil (listed_nil (by simp [go_sem, *])) (Nat.le_refl _)) ?_
        clear hK K
        try walk_nrm
        refine t_op hT rfl (by rfl) (by first | decide | assumption) (by first | rfl | (rw [hro]; rfl)) (fun w₁ hR K hK => ?_)
        have hR2 : _ = w₁ := Eq.symm hR
        subst hR2
        clear hR
        go_simp
        try (unfold stored; go_simp)
        try go_ints
        refine hK _ _ () (dt_nil (listed_nil (by simp [go_sem, *])) (Nat.le_refl _)) ?_
        clear hK K
        try walk_nrm
        refine t_op hT rfl (by rfl) (by first | decide | assumption) (by first | rfl | (rw [hro]; rfl)) (fun w₁ hR K hK => ?_)
        have hR2 : _ = w₁ := Eq.symm hR
        subst hR2
        clear hR
        go_simp
        try (unfold stored; go_simp)
        try go_ints
        refine hK _ _ () (dt_nil (listed_nil (by simp [go_sem, *])) (Nat.le_refl _)) ?_
        clear hK K
        try walk_nrm
        refine t_op hT rfl (by rfl) (by first | decide | assumption) (by first | rfl | (rw [hro]; rfl)) (fun w₁ hR K hK => ?_)
        have hR2 : _ = w₁ := Eq.symm hR
        subst hR2
        clear hR
        go_simp
        try (unfold stored; go_simp)
        try go_ints
        refine hK _ _ () (dt_nil (listed_nil (by simp [go_sem, *])) (Nat.le_refl _)) ?_
        clear hK K
        try walk_nrm
        exact hRo.out A c xs W6 B6 _ _ _ _ _ _ _ _ _ _ _ _ _ _ _ _ _ _ _ _ _ _ _ _ _ _ _ _ _ _ _ _ _ _ undef _ _ _ undef undef undef _ _ _ _ _ _ ok of.rd hm h4 hri.out.symm
      · have hd4 : decide ((4 : Int) < (xs.length : Int)) = true := by simp; omega
        refine t_op hT rfl (by rfl) (by first | decide | assumption) (by first | rfl | (rw [hro]; rfl)) (fun w₁ hR K hK => ?_)
        have hR2 : _ = w₁ := Eq.symm hR
        subst hR2
        clear hR
        go_simp
        try (unfold stored; go_simp)
        try go_ints
        refine hK _ _ () (dt_nil (listed_nil (by simp [go_sem, *])) (Nat.le_refl _)) ?_
        clear hK K
        try walk_nrm
        refine t_op hT rfl (by rfl) (by first | decide | assumption) (by first | rfl | (rw [hro]; rfl)) (fun w₁ hR K hK => ?_)
        have hR2 : _ = w₁ := Eq.symm hR
        subst hR2
        clear hR
        go_simp
        try (unfold stored; go_simp)
        try go_ints
        refine hK _ _ () (dt_nil (listed_nil (by simp [go_sem, *])) (Nat.le_refl _)) ?_
        clear hK K
        try walk_nrm
        refine t_op hT rfl (by rfl) (by first | decide | assumption) (by first | rfl | (rw [hro]; rfl)) (fun w₁ hR K hK => ?_)
        have hR2 : _ = w₁ := Eq.symm hR
        subst hR2
        clear hR
        go_simp
        try (unfold stored; go_simp)
        try go_ints
        refine hK _ _ () (dt_nil (listed_nil (by simp [go_sem, *])) (Nat.le_refl _)) ?_
        clear hK K
        try walk_nrm
        refine t_op hT rfl (by rfl) (by first | decide | assumption) (by first | rfl | (rw [hro]; rfl)) (fun w₁ hR K hK => ?_)
        have hR2 : _ = w₁ := Eq.symm hR
        subst hR2
        clear hR
        go_simp
        try (unfold stored; go_simp)
        try go_ints
        refine hK _ _ () (dt_nil (listed_nil (by simp [go_sem, *])) (Nat.le_refl _)) ?_
        clear hK K
        try walk_nrm
        refine t_op hT rfl (by rfl) (by first | decide | assumption) (by first | rfl | (rw [hro]; rfl)) (fun w₁ hR K hK => ?_)
        have hR2 : _ = w₁ := Eq.symm hR
        subst hR2
        clear hR
        go_simp
        try (unfold stored; go_simp)
        try go_ints
        refine hK _ _ () (dt_nil (listed_nil (by simp [go_sem, *])) (Nat.le_refl _)) ?_
        clear hK K
        try walk_nrm
        refine t_un hT rfl (by rfl) ?_
        try walk_nrm
        refine t_un hT rfl (by rfl) ?_
        try walk_nrm
        refine t_un hT rfl (by rfl) ?_
        try walk_nrm
        refine t_un hT rfl (by rfl) ?_
        try walk_nrm
        refine t_un hT rfl (by rfl) ?_
        try walk_nrm
        refine t_un hT rfl (by rfl) ?_
        try walk_nrm
        refine t_op hT rfl (by rfl) (by first | decide | assumption) (by first | rfl | (rw [hro]; rfl)) (fun w₁ hR K hK => ?_)
        have hR2 : _ = w₁ := Eq.symm hR
        subst hR2
        clear hR
        go_simp
        try (unfold stored; go_simp)
        try go_ints
        refine hK _ _ () (dt_nil (listed_nil (by simp [go_sem, *])) (Nat.le_refl _)) ?_
        clear hK K
        try walk_nrm
        refine t_op hT rfl (by rfl) (by first | decide | assumption) (by first | rfl | (rw [hro]; rfl)) (fun w₁ hR K hK => ?_)
        have hR2 : _ = w₁ := Eq.symm hR
        subst hR2
        clear hR
        go_simp
        try (unfold stored; go_simp)
        try go_ints
        refine hK _ _ () (dt_nil (listed_nil (by simp [go_sem, *])) (Nat.le_refl _)) ?_
        clear hK K
        try walk_nrm
        refine t_op hT rfl (by rfl) (by first | decide | assumption) (by first | rfl | (rw [hro]; rfl)) (fun w₁ hR K hK => ?_)
        have hR2 : _ = w₁ := Eq.symm hR
        subst hR2
        clear hR
        go_simp
        try (unfold stored; go_simp)
        try go_ints
        refine hK _ _ () (dt_nil (listed_nil (by simp [go_sem, *])) (Nat.le_refl _)) ?_
        clear hK K
        try walk_nrm
        refine t_rend hT ?_
        exact hret.out _ _ _ rfl rfl B6
end
end Go.Proofs.Ytkbfcaaihellfaa
