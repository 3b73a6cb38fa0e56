/- Steps on the way to the law; each part says what it proves. -/
import Derived.Test.YtkbfcaaihellfaaU17

set_option linter.unusedSimpArgs false

/- Walks in company: mapsFrom's iterator over a worker's loop. -/
namespace Go.Proofs.Ytkbfcaaihellfaa
open Go.Conc Go.ConcN Go.RowKit
set_option linter.unusedVariables false
set_option linter.unusedSectionVars false

/-! ### plainly: the next row -/
def carryR (n : Nat) : Nat → List Int → List Int × Nat
  | 0, xs => (xs, 0)
  | p + 1, xs => if nth xs (p + 1) = (n : Int) - 1 then carryR n p (xs.set (p + 1) 0) else (xs, p + 1)
def nextR (n : Nat) (xs : List Int) : Option (List Int) := if (carryR n (n - 1) xs).2 = 0 then none else some ((carryR n (n - 1) xs).1.set (carryR n (n - 1) xs).2 (nth (carryR n (n - 1) xs).1 (carryR n (n - 1) xs).2 + 1))
theorem carryR_le (n : Nat) : ∀ (p : Nat) (xs : List Int), (carryR n p xs).2 ≤ p
  | 0, xs => Nat.le_refl _
  | p + 1, xs => by
    unfold carryR
    split
    · exact Nat.le_trans (carryR_le n p _) (by omega)
    · exact Nat.le_refl _
theorem carryR_len (n : Nat) : ∀ (p : Nat) (xs : List Int), (carryR n p xs).1.length = xs.length
  | 0, xs => rfl
  | p + 1, xs => by
    unfold carryR
    split
    · rw [carryR_len n p]; simp
    · rfl
/-- the rows from here on -/
def ChainR (n : Nat) : List (List Int) → Prop
  | [] => False
  | xs :: t => xs.length = n ∧ (∀ x ∈ xs, 0 ≤ x ∧ x < n) ∧ (match t with
    | [] => nextR n xs = none
    | zs :: _ => nextR n xs = some zs ∧ ChainR n t)

section
variable {P : Program} {main : Bool} {γ : Type} {R : γ → World → World → Prop} {D : γ → World → World → Array Event → γ → Prop} {T : γ → Goroutine → World → Prop}
variable {b : Frame} {a : Act} {k : List Item} {cs : List Frame} {y : γ} {w : World}
/-- A LOOP, with a ghost. -/
theorem t_loopX (hT : Clo P main R D T) {c : Code} {α : Type} (I : α → Act → γ → World → Prop) (μ : α → Nat) (x : α) (h0 : I x a y w)
    (round : ∀ x a y w, I x a y w → (∀ x' a' y' w', I x' a' y' w' → μ x' < μ x → T y' (G (b.atR a' (.inLoop c :: k)) cs) w') → T y (G (b.atR a (.code c :: .inLoop c :: k)) cs) w) : T y (G (b.atR a (.code (.loop c) :: k)) cs) w := by
  have key : ∀ n x a y w, μ x ≤ n → I x a y w → T y (G (b.atR a (.code c :: .inLoop c :: k)) cs) w := by
    intro n
    induction n with
    | zero => exact fun x a y w hn hi => round x a y w hi fun x' a' y' w' _ hlt => absurd hlt (by omega)
    | succ n ih => exact fun x a y w hn hi => round x a y w hi fun x' a' y' w' hi' hlt => t_inLoop hT (ih x' a' y' w' (by omega) hi')
  exact t_loop1 hT (key _ x a y w (Nat.le_refl _) h0)
end

section
variable [Go.ConcR.Payload] {ty : TypeId} {Wg C n LW : Nat} {S : Nat → Prop} {c k : Nat} {y : Gh} {w : World}
variable {Fx : World → Prop} {bL bX fF : Nat} {cap : Array Value} {p : List Int → Bool}
/-- what the iterator knows -/
structure It (ty : TypeId) (Wg : Nat) (S : Nat → Prop) (Fx : World → Prop) (l b2 N : Nat) (LO : Obj) (nn : Nat) (xs : List Int) (y0 : Gh) (w0 : World) (y : Gh) (w : World) : Prop where
  gy : Gy ty Wg S l y0 w0 y w
  lo : w.heap[l]? = some LO
  bx : w.heap[b2]? = some (.cells #[.int .i64 nn] 3)
  fx : Fx w
  own : Own 0 w (.slice (some ⟨N, 0, none⟩) nn nn) xs
  ml : y.1 l
  mb : y.1 b2
  mN : y.1 N
  new : w0.heap.size ≤ N
  nl : l < w0.heap.size
  nb : b2 < w0.heap.size
variable {l b2 N nn : Nat} {LO : Obj} {xs : List Int} {y0 y1 : Gh} {w0 w1 : World}
theorem It.rely (hfx : ∀ w w₁ : World, (∀ b, S b → w₁.heap[b]? = w.heap[b]?) → Fx w → Fx w₁) (h : It ty Wg S Fx l b2 N LO nn xs y0 w0 y w) (r : RG ty Wg S y w w1) : It ty Wg S Fx l b2 N LO nn xs y0 w0 y w1 :=
  ⟨h.gy.rely r, (r.keep l (.inl h.ml)).trans h.lo, (r.keep b2 (.inl h.mb)).trans h.bx, hfx w w1 (fun b hb => r.keep b (.inr hb)) h.fx, h.own.heap (r.keep N (.inl h.mN)), h.ml, h.mb, h.mN, h.new, h.nl, h.nb⟩
theorem It.store (hfx : ∀ w w₁ : World, (∀ b, S b → w₁.heap[b]? = w.heap[b]?) → Fx w → Fx w₁) (hB0 : Bd S y0 w0) (h : It ty Wg S Fx l b2 N LO nn xs y0 w0 y w) (j : Nat) (x : Int) : It ty Wg S Fx l b2 N LO nn (xs.set j x) y0 w0 y (w.setCell ⟨N, j, none⟩ (.int .i64 x)) := by
  have ne : ∀ b, b < w0.heap.size → b ≠ N := fun b hb e => by have := h.new; omega
  refine ⟨⟨fun b hb hl => (set_get (ne b (hB0 b hb))).trans (h.gy.keep b hb hl), by rw [set_size]; exact h.gy.size, fun hl => live_heap (set_get (ne _ (live_lt hl))) (h.gy.live hl), h.gy.sub, fun b hb => by rw [set_size]; exact h.gy.bd b hb⟩,
    (set_get (ne _ h.nl)).trans h.lo, (set_get (ne _ h.nb)).trans h.bx, hfx w _ (fun b hb => set_get (ne b (hB0 b (.inr hb)))) h.fx, h.own.store j x, h.ml, h.mb, h.mN, h.new, h.nl, h.nb⟩
/-- behind a round -/
theorem It.round (hfx : ∀ w w₁ : World, (∀ b, S b → w₁.heap[b]? = w.heap[b]?) → Fx w → Fx w₁) (hlS : ¬ S l) (hbl : b2 ≠ l) (h : It ty Wg S Fx l b2 N LO nn xs y0 w0 y w) (g : Gy ty Wg S l y w y1 w1) (hl : w1.heap[l]? = some LO) : It ty Wg S Fx l b2 N LO nn xs y0 w0 y1 w1 :=
  have nN : N ≠ l := fun e => by have := h.new; have := h.nl; omega
  ⟨h.gy.trans g, hl, (g.keep b2 (.inl h.mb) hbl).trans h.bx, hfx w w1 (fun b hb => g.keep b (.inr hb) fun e => hlS (by rw [← e]; exact hb)) h.fx, h.own.heap (g.keep N (.inl h.mN) nN), g.sub _ h.ml, g.sub _ h.mb, g.sub _ h.mN, h.new, h.nl, h.nb⟩

set_option maxHeartbeats 8000000 in
theorem iter_g (A : Around ty Wg C n LW S c k Fx bL bX fF cap p) (v0 : Value) (bT bF : Nat) (v6 v7 v8 v9 : Value) (l r b2 b3 first : Nat) (R : List (List Int)) (h0 : 1 ≤ nn) (hnn : nn ≤ 7) (hfi : first < nn)
    (hR : ChainR nn R) (hR0 : R.head? = some ((first : Int) :: List.replicate (nn - 1) 0)) (hlS : ¬ S l) (hbl : b2 ≠ l)
    (hB : Bd S y w) (hm : y.1 l) (hl : w.heap[l]? = some (loopAt 58 (tm58 v0 bL bT bF bX v6 v7 v8 v9 undef) #[10] rf58.1 rf58.2 r)) (hm2 : y.1 b2) (hm3 : y.1 b3)
    (hb2 : w.heap[b2]? = some (.cells #[.int .i64 nn] 3)) (hb3 : w.heap[b3]? = some (.cells #[.int .i64 first] 3)) (hfx : Fx w) (hrows : y.2 = R.filter p) :
    CallsT Try.prog (TW Try.prog ty Wg C n LW RwI S c k) 84 #[.func (.yield l) #[] #[], .pointer (some ⟨b2, 0, none⟩), .pointer (some ⟨b3, 0, none⟩)] y w fun v y' w' => v = .tuple #[] ∧ y'.2 = [] ∧ Gy ty Wg S l y w y' w' ∧ w'.heap[l]? = some (loopAt 58 (tm58 v0 bL bT bF bX v6 v7 v8 v9 undef) #[10] rf58.1 rf58.2 r) := by
  have hT := clo_w (P := Try.prog) (ty := ty) (Wg := Wg) (C := C) (n := n) (LW := LW) (Rw := RwI) (S := S) (c := c) (k := k)
  have hRound := fun (N nc : Nat) (y' : Gh) (w' : World) (xs : List Int) (rest : List (List Int)) (fr : Frame) (cs : List Frame) => round_g (y := y') (w := w') A v0 bT bF v6 v7 v8 v9 l r N nc xs rest fr cs
  generalize hTT : TW Try.prog ty Wg C n LW RwI S c k = T at hT hRound ⊢
  generalize hlo : loopAt 58 (tm58 v0 bL bT bF bX v6 v7 v8 v9 undef) #[10] rf58.1 rf58.2 r = LO at hl hRound ⊢
  refine callsT_of Try.func84 rfl fun fr cs hc => ?_
  simp only [Try.ntmps84, List.size_toArray, List.length_cons, List.length_nil, Nat.reduceAdd, Nat.reduceSub, Array.replicate_succ, Array.replicate_zero, List.push_toArray, List.append_toArray, List.nil_append, List.cons_append]
  have hF : RG ty Wg S y w w := RM.refl w
  repeat (first | refine t_seq hT ?_ | refine t_block hT ?_ | refine t_skip hT ?_ | refine t_inBlock hT ?_ | refine t_rend hT ?_ | refine t_exit hT rfl ?_)
  refine t_region hT [0, 1, 2] rfl ?_
  refine t_op hT rfl (by rfl) (by first | decide | assumption) (by first | rfl | (rw [hro]; rfl)) (fun _ hR K hK => ?_)
  replace hF := hF.trans hR
  clear hR
  have hce := cell_of_heap (k := 0) (v := .int .i64 nn) ((hF.keep b2 (.inl hm2)).trans hb2) rfl
  go_simp
  try (unfold stored; go_simp)
  try go_ints
  refine hK _ _ y (dg_reads ?_) ?_
  · co_evs (exact evm_read (.inl hm2))
  clear hK K
  try walk_nrm
  clear hce
  refine t_op hT rfl (by rfl) (by first | decide | assumption) (by first | rfl | (rw [hro]; rfl)) (fun w₁ hR K hK => ?_)
  replace hF := hF.trans hR
  clear hR
  have hmk := run_mk' nn (by omega) w₁
  have hev := evs_mk nn (by omega) w₁
  go_simp
  obtain ⟨y1, hdg, gw, _, hmN, _, hnN⟩ := gw_new (main := false) (.cells (madeCells #[.int .i64 0] nn) 3) (Gw.of_rg hB hF)
  refine hK _ _ y1 (by rw [listed_nil (by simp [go_sem, *])]; exact hdg) ?_
  have hO := own_mk' w₁ nn (by omega)
  replace hF : It ty Wg S Fx l b2 w₁.heap.size LO nn (List.replicate nn 0) y w y1 (w₁.alloc (.cells (madeCells #[.int .i64 0] nn) 3)) :=
    ⟨.of_gw gw, (gw.rg.keep l (.inl hm)).trans hl, (gw.rg.keep b2 (.inl hm2)).trans hb2, A.rely _ _ (fun b hb => gw.rg.keep b (.inr hb)) hfx, hO, gw.sub _ hm, gw.sub _ hm2, hmN, hF.size, hB l (.inl hm), hB b2 (.inl hm2)⟩
  have hb3' := (gw.rg.keep b3 (.inl hm3)).trans hb3
  have hm3' := gw.sub _ hm3
  have hrows1 := gw.rows
  clear hK K hmk hev gw hdg hO
  try walk_nrm
  generalize w₁.heap.size = N at *
  generalize w₁.alloc (.cells (madeCells #[.int .i64 0] nn) 3) = W1 at *
  replace hF := And.intro hF hb3'
  clear hb3'
  refine t_op hT rfl (by rfl) (by first | decide | assumption) (by first | rfl | (rw [hro]; rfl)) (fun _ hR K hK => ?_)
  replace hF := And.intro (hF.1.rely A.rely hR) ((hR.keep b3 (.inl hm3')).trans hF.2)
  clear hR
  go_simp
  try (unfold stored; go_simp)
  try go_ints
  refine hK _ _ y1 (by rw [listed_nil (by simp [go_sem, *])]; exact hT.idle _ _) ?_
  clear hK K
  try walk_nrm
  repeat (first | refine t_seq hT ?_ | refine t_block hT ?_ | refine t_skip hT ?_ | refine t_inBlock hT ?_ | refine t_rend hT ?_ | refine t_exit hT rfl ?_)
  refine t_region hT [0, 1, 2, 3] rfl ?_
  refine t_op hT rfl (by rfl) (by first | decide | assumption) (by first | rfl | (rw [hro]; rfl)) (fun _ hR K hK => ?_)
  replace hF := And.intro (hF.1.rely A.rely hR) ((hR.keep b3 (.inl hm3')).trans hF.2)
  clear hR
  go_simp
  try (unfold stored; go_simp)
  try go_ints
  refine hK _ _ y1 (by rw [listed_nil (by simp [go_sem, *])]; exact hT.idle _ _) ?_
  clear hK K
  try walk_nrm
  refine t_op hT rfl (by rfl) (by first | decide | assumption) (by first | rfl | (rw [hro]; rfl)) (fun _ hR K hK => ?_)
  replace hF := And.intro (hF.1.rely A.rely hR) ((hR.keep b3 (.inl hm3')).trans hF.2)
  clear hR
  have hce := cell_of_heap (k := 0) (v := .int .i64 first) hF.2 rfl
  go_simp
  try (unfold stored; go_simp)
  try go_ints
  refine hK _ _ y1 (dg_reads ?_) ?_
  · co_evs (exact evm_read (.inl hm3'))
  clear hK K
  try walk_nrm
  clear hce
  have hlen0 := hid (show (List.replicate nn (0 : Int)).length = nn by simp)
  have hpos : (0 : Int) < (nn : Int) := by omega
  have hpos' : 0 < nn := by omega
  refine t_op hT rfl (by rfl) (by first | decide | assumption) (by first | rfl | (rw [hro]; rfl)) (fun _ hR K hK => ?_)
  replace hF := And.intro (hF.1.rely A.rely hR) ((hR.keep b3 (.inl hm3')).trans hF.2)
  clear hR
  go_simp
  try (unfold stored; go_simp)
  try go_ints
  refine hK _ _ y1 (by rw [listed_nil (by simp [go_sem, *])]; exact hT.idle _ _) ?_
  clear hK K
  try walk_nrm
  refine t_op hT rfl (by rfl) (by first | decide | assumption) (by first | rfl | (rw [hro]; rfl)) (fun _ hR K hK => ?_)
  replace hF := And.intro (hF.1.rely A.rely hR) ((hR.keep b3 (.inl hm3')).trans hF.2)
  clear hR
  have hcl := hF.1.own.cell (k := 0) (by rw [hlen0.out]; omega); have hfz := hF.1.own.frozen 0
  go_simp
  try (unfold stored; go_simp)
  try go_ints
  refine hK _ _ y1 (dg_store hF.1.mN (by co_evs (exact evm_write hF.1.mN))) ?_
  clear hK K
  try walk_nrm
  clear hcl hfz
  have hst := hF.1.store A.rely hB 0 (first : Int)
  rw [show (List.replicate nn (0 : Int)).set 0 (first : Int) = (first : Int) :: List.replicate (nn - 1) 0 by obtain ⟨m, rfl⟩ : ∃ m, nn = m + 1 := ⟨nn - 1, by omega⟩; rfl] at hst
  replace hF := hst
  clear hst
  have hF0 := hF
  replace hF := And.intro hF hF0
  clear hF0
  repeat (first | refine t_seq hT ?_ | refine t_block hT ?_ | refine t_skip hT ?_ | refine t_inBlock hT ?_ | refine t_rend hT ?_ | refine t_exit hT rfl ?_)
  clear hlen0 hpos
  refine t_loopX hT (fun (L : List (List Int)) a y' w' => a.defers = [] ∧ a.tmps.size = 40 ∧ ∃ xs tl, L = xs :: tl ∧ ChainR nn L ∧ a.tmps.getD 0 undef = .func (.yield l) #[] #[] ∧ a.tmps.getD 1 undef = .pointer (some ⟨b2, 0, none⟩) ∧ a.tmps.getD 4 undef = .slice (some ⟨N, 0, none⟩) nn nn ∧ y'.2 = L.filter p ∧ It ty Wg S Fx l b2 N LO nn xs y w y' w') List.length R ?_ ?_
  · cases R with
    | nil => cases hR
    | cons xs tl =>
      have hx0 : xs = (first : Int) :: List.replicate (nn - 1) 0 := by simpa using hR0
      exact ⟨rfl, rfl, xs, tl, rfl, hR, rfl, rfl, rfl, hrows1.trans hrows, by rw [hx0]; exact hF.1⟩
  clear hF hR hR0 hrows hrows1 hmN hnN hm3' hm hl hm2 hm3 hb2 hb3
  rintro L ⟨tmps, ds⟩ y2 w2 ⟨rfl, hsz, xs, tl, rfl, hch, h0, h1, h4, hrows, hF⟩ IH
  obtain ⟨J, rfl⟩ : ∃ J : Nat → Value, tmps = #[J 0, J 1, J 2, J 3, J 4, J 5, J 6, J 7, J 8, J 9, J 10, J 11, J 12, J 13, J 14, J 15, J 16, J 17, J 18, J 19, J 20, J 21, J 22, J 23, J 24, J 25, J 26, J 27, J 28, J 29, J 30, J 31, J 32, J 33, J 34, J 35, J 36, J 37, J 38, J 39] := ⟨fun i => tmps.getD i undef, (lit tmps).trans (by rw [hsz]; rfl)⟩
  change J 0 = _ at h0
  change J 1 = _ at h1
  change J 4 = _ at h4
  simp only [h0, h1, h4]
  clear hsz h0 h1
  clear h4
  have hxl : xs.length = nn := hch.1
  repeat (first | refine t_seq hT ?_ | refine t_block hT ?_ | refine t_skip hT ?_ | refine t_inBlock hT ?_ | refine t_rend hT ?_ | refine t_exit hT rfl ?_)
  refine t_region hT [0, 1, 2] rfl ?_
  refine t_op hT rfl (by rfl) (by first | decide | assumption) (by first | rfl | (rw [hro]; rfl)) (fun _ hR K hK => ?_)
  replace hF := hF.rely A.rely hR
  clear hR
  go_simp
  try (unfold stored; go_simp)
  try go_ints
  refine hK _ _ y2 (by rw [listed_nil (by simp [go_sem, *])]; exact hT.idle _ _) ?_
  clear hK K
  try walk_nrm
  refine t_op hT rfl (by rfl) (by first | decide | assumption) (by first | rfl | (rw [hro]; rfl)) (fun _ hR K hK => ?_)
  replace hF := hF.rely A.rely hR
  clear hR
  go_simp
  try (unfold stored; go_simp)
  try go_ints
  refine hK _ _ y2 (by rw [listed_nil (by simp [go_sem, *])]; exact hT.idle _ _) ?_
  clear hK K
  try walk_nrm
  refine t_yield hT (x := .tmp 11) (z := .tmp 12) rfl (by rfl) (by decide) (by rfl) rfl rfl hF.ml (hF.lo.trans (congrArg some hlo.symm)) (fun w₁ hR => ?_)
  replace hF := hF.rely A.rely hR
  clear hR
  have key := fun (fr : Frame) (cs : List Frame) => hRound N nn y2 w₁ xs (tl.filter p) fr cs hF.gy.bd hF.ml hlS hF.lo hF.mN (fun e => by have := hF.new; have := hF.nl; omega) (by have := hF.own.rd; exact this) (by omega) (by omega) hF.fx (by rw [hrows, List.filter_cons])
  rw [hxl] at key
  refine key _ _ ?_
  clear key
  intro y3 w3 hgy hy3 hl3
  replace hF := hF.round A.rely hlS hbl hgy hl3
  clear hgy hl3
  rw [Frame.finish_atR]
  try walk_nrm
  repeat (first | refine t_seq hT ?_ | refine t_block hT ?_ | refine t_skip hT ?_ | refine t_inBlock hT ?_ | refine t_rend hT ?_ | refine t_exit hT rfl ?_)
  refine t_cond hT (t := _) rfl ?_
  simp only [if_true, if_false, reduceIte, Bool.false_eq_true, *]
  repeat (first | refine t_seq hT ?_ | refine t_block hT ?_ | refine t_skip hT ?_ | refine t_inBlock hT ?_ | refine t_rend hT ?_ | refine t_exit hT rfl ?_)
  refine t_region hT [0, 1, 2] rfl ?_
  refine t_op hT rfl (by rfl) (by first | decide | assumption) (by first | rfl | (rw [hro]; rfl)) (fun _ hR K hK => ?_)
  replace hF := hF.rely A.rely hR
  clear hR
  have hce := cell_of_heap (k := 0) (v := .int .i64 nn) hF.bx rfl
  go_simp
  try (unfold stored; go_simp)
  try go_ints
  refine hK _ _ y3 (dg_reads ?_) ?_
  · co_evs (exact evm_read (.inl hF.mb))
  clear hK K
  try walk_nrm
  clear hce
  refine t_op hT rfl (by rfl) (by first | decide | assumption) (by first | rfl | (rw [hro]; rfl)) (fun _ hR K hK => ?_)
  replace hF := hF.rely A.rely hR
  clear hR
  go_simp
  try (unfold stored; go_simp)
  try go_ints
  refine hK _ _ y3 (by rw [listed_nil (by simp [go_sem, *])]; exact hT.idle _ _) ?_
  clear hK K
  try walk_nrm
  refine t_op hT rfl (by rfl) (by first | decide | assumption) (by first | rfl | (rw [hro]; rfl)) (fun _ hR K hK => ?_)
  replace hF := hF.rely A.rely hR
  clear hR
  go_simp
  try (unfold stored; go_simp)
  try go_ints
  refine hK _ _ y3 (by rw [listed_nil (by simp [go_sem, *])]; exact hT.idle _ _) ?_
  clear hK K
  try walk_nrm
  repeat (first | refine t_seq hT ?_ | refine t_block hT ?_ | refine t_skip hT ?_ | refine t_inBlock hT ?_ | refine t_rend hT ?_ | refine t_exit hT rfl ?_)
  have en1 := hid (show (nn : Int) - 1 = ((nn - 1 : Nat) : Int) by omega)
  refine t_loop hT (fun a y' w' => a.defers = [] ∧ a.tmps.size = 40 ∧ ∃ q ys, a.tmps.getD 0 undef = .func (.yield l) #[] #[] ∧ a.tmps.getD 1 undef = .pointer (some ⟨b2, 0, none⟩) ∧ a.tmps.getD 4 undef = .slice (some ⟨N, 0, none⟩) nn nn ∧ a.tmps.getD 5 undef = .int .i64 ((q : Nat) : Int) ∧ q ≤ nn - 1 ∧ carryR nn (nn - 1) xs = carryR nn q ys ∧ ys.length = nn ∧ y3 = y' ∧ It ty Wg S Fx l b2 N LO nn ys y w y' w') (fun a _ _ => natOf (a.tmps.getD 5 undef)) ⟨rfl, rfl, nn - 1, xs, rfl, rfl, rfl, congrArg (Value.int .i64) en1.out, Nat.le_refl _, rfl, hxl, rfl, hF⟩ ?_
  clear hF
  rintro ⟨tmps, ds⟩ y' w' ⟨rfl, hsz, q, ys, h0, h1, h4, h5, hq, hcar, hyl, rfl, hF⟩ IH2
  obtain ⟨J, rfl⟩ : ∃ J : Nat → Value, tmps = #[J 0, J 1, J 2, J 3, J 4, J 5, J 6, J 7, J 8, J 9, J 10, J 11, J 12, J 13, J 14, J 15, J 16, J 17, J 18, J 19, J 20, J 21, J 22, J 23, J 24, J 25, J 26, J 27, J 28, J 29, J 30, J 31, J 32, J 33, J 34, J 35, J 36, J 37, J 38, J 39] := ⟨fun i => tmps.getD i undef, (lit tmps).trans (by rw [hsz]; rfl)⟩
  change J 0 = _ at h0
  change J 1 = _ at h1
  change J 4 = _ at h4
  change J 5 = _ at h5
  simp only [h0, h1, h4, h5]
  clear hsz h0 h1 h4
  have hμ : natOf (J 5) = q := by rw [h5]; exact Int.toNat_natCast q
  clear h5
  have HC := hid hcar
  clear hcar
  rcases Nat.eq_zero_or_pos q with rfl | hqp
  · -- at the first place
    repeat (first | refine t_seq hT ?_ | refine t_block hT ?_ | refine t_skip hT ?_ | refine t_inBlock hT ?_ | refine t_rend hT ?_ | refine t_exit hT rfl ?_)
    refine t_drawR hT (S := (fun W => It ty Wg S Fx l b2 N LO nn ys y w y3 W)) (fun _ _ h r => h.rely A.rely r) (fun _ h => h.rely A.rely ⟨fun _ _ => rfl, Nat.le_refl _, id⟩) (by first | kernel_rfl | rfl) (by first | decide | assumption) rfl hF ?_
    refine anyR_take (i := 0) (v := .int .i64 ((0 : Nat) : Int)) rfl (by decide +kernel) (by decide +kernel) (by decide +kernel) (.inl ⟨by rfl, fun _ hw => ⟨run_eq_of (fun K hK => ?_), ?_⟩⟩) ?_
    · skip
      go_simp
      try go_ints
      exact hK
    · skip
      rw [listed_nil (by simp [go_sem, *])]; exact hT.idle _ _
    try walk_nrm
    refine anyR_take (i := 1) (v := .bool false) rfl (by decide +kernel) (by decide +kernel) (by decide +kernel) (.inl ⟨by rfl, fun _ hw => ⟨run_eq_of (fun K hK => ?_), ?_⟩⟩) ?_
    · skip
      go_simp
      try go_ints
      exact hK
    · skip
      rw [listed_nil (by simp [go_sem, *])]; exact hT.idle _ _
    try walk_nrm
    refine anyR_take (i := 2) (v := .bool false) rfl (by decide +kernel) (by decide +kernel) (by decide +kernel) (.inl ⟨by rfl, fun _ hw => ⟨run_eq_of (fun K hK => ?_), ?_⟩⟩) ?_
    · skip
      go_simp
      try go_ints
      exact hK
    · skip
      rw [listed_nil (by simp [go_sem, *])]; exact hT.idle _ _
    try walk_nrm
    refine anyR_take (i := 3) (v := undef) rfl (by decide +kernel) (by decide +kernel) (by decide +kernel) (.inr ⟨by rfl, rfl⟩) ?_
    try walk_nrm
    refine anyR_take (i := 4) (v := undef) rfl (by decide +kernel) (by decide +kernel) (by decide +kernel) (.inr ⟨by rfl, rfl⟩) ?_
    try walk_nrm
    refine anyR_take (i := 5) (v := undef) rfl (by decide +kernel) (by decide +kernel) (by decide +kernel) (.inr ⟨by rfl, rfl⟩) ?_
    try walk_nrm
    refine anyR_take (i := 6) (v := undef) rfl (by decide +kernel) (by decide +kernel) (by decide +kernel) (.inr ⟨by rfl, rfl⟩) ?_
    try walk_nrm
    refine anyR_take (i := 7) (v := undef) rfl (by decide +kernel) (by decide +kernel) (by decide +kernel) (.inr ⟨by rfl, rfl⟩) ?_
    try walk_nrm
    refine anyR_take (i := 8) (v := undef) rfl (by decide +kernel) (by decide +kernel) (by decide +kernel) (.inr ⟨by rfl, rfl⟩) ?_
    try walk_nrm
    refine anyR_take (i := 9) (v := undef) rfl (by decide +kernel) (by decide +kernel) (by decide +kernel) (.inr ⟨by rfl, rfl⟩) ?_
    try walk_nrm
    refine anyR_take (i := 10) (v := .bool false) rfl (by decide +kernel) (by decide +kernel) (by decide +kernel) (.inl ⟨by rfl, fun _ hw => ⟨run_eq_of (fun K hK => ?_), ?_⟩⟩) ?_
    · skip
      go_simp
      try go_ints
      exact hK
    · skip
      rw [listed_nil (by simp [go_sem, *])]; exact hT.idle _ _
    try walk_nrm
    refine anyR_done (by first | kernel_rfl | decide +kernel) (fun _ hF => ?_) _
    repeat (first | refine t_seq hT ?_ | refine t_block hT ?_ | refine t_skip hT ?_ | refine t_inBlock hT ?_ | refine t_rend hT ?_ | refine t_exit hT rfl ?_)
    refine t_cond hT (t := _) rfl ?_
    simp only [if_true, if_false, reduceIte, Bool.false_eq_true, *]
    repeat (first | refine t_seq hT ?_ | refine t_block hT ?_ | refine t_skip hT ?_ | refine t_inBlock hT ?_ | refine t_rend hT ?_ | refine t_exit hT rfl ?_)
    refine t_region hT [0, 1] rfl ?_
    refine t_op hT rfl (by rfl) (by first | decide | assumption) (by first | rfl | (rw [hro]; rfl)) (fun _ hR K hK => ?_)
    replace hF := hF.rely A.rely hR
    clear hR
    go_simp
    try (unfold stored; go_simp)
    try go_ints
    refine hK _ _ y3 (by rw [listed_nil (by simp [go_sem, *])]; exact hT.idle _ _) ?_
    clear hK K
    try walk_nrm
    refine t_op hT rfl (by rfl) (by first | decide | assumption) (by first | rfl | (rw [hro]; rfl)) (fun _ hR K hK => ?_)
    replace hF := hF.rely A.rely hR
    clear hR
    go_simp
    try (unfold stored; go_simp)
    try go_ints
    refine hK _ _ y3 (by rw [listed_nil (by simp [go_sem, *])]; exact hT.idle _ _) ?_
    clear hK K
    try walk_nrm
    repeat (first | refine t_seq hT ?_ | refine t_block hT ?_ | refine t_skip hT ?_ | refine t_inBlock hT ?_ | refine t_rend hT ?_ | refine t_exit hT rfl ?_)
    refine t_cond hT (t := _) rfl ?_
    simp only [if_true, if_false, reduceIte, Bool.false_eq_true, *]
    refine t_ret hT rfl rfl rfl Try.func84 (resultsC_none (by rfl) _) (hc _ _ _ ⟨rfl, ?_, hF.gy, hF.lo⟩)
    have hnx : nextR nn xs = none := by unfold nextR; rw [HC.out]; rfl
    cases tl with
    | nil => rw [hy3]; rfl
    | cons zs t =>
      have := hch.2.2.1
      rw [hnx] at this
      cases this
  · obtain ⟨q', rfl⟩ : ∃ q', q = q' + 1 := ⟨q - 1, by omega⟩
    have hgt : (0 : Int) < ((q' + 1 : Nat) : Int) := by omega
    have hlt : q' + 1 < nn := by omega
    have hl2 := hid (show q' + 1 < ys.length by omega)
    have hq1 := hid (show ((q' + 1 : Nat) : Int) - 1 = ((q' : Nat) : Int) by omega)
    generalize hQ : q' + 1 = Q at *
    by_cases he : nth ys Q = (nn : Int) - 1
    · have hd : (nth ys Q == (nn : Int) - 1) = true := by simpa using he
      have HE := hid he
      clear he
      repeat (first | refine t_seq hT ?_ | refine t_block hT ?_ | refine t_skip hT ?_ | refine t_inBlock hT ?_ | refine t_rend hT ?_ | refine t_exit hT rfl ?_)
      refine t_drawR hT (S := (fun W => It ty Wg S Fx l b2 N LO nn ys y w y3 W)) (fun _ _ h r => h.rely A.rely r) (fun _ h => h.rely A.rely ⟨fun _ _ => rfl, Nat.le_refl _, id⟩) (by first | kernel_rfl | rfl) (by first | decide | assumption) rfl hF ?_
      refine anyR_take (i := 0) (v := .int .i64 (Q : Int)) rfl (by decide +kernel) (by decide +kernel) (by decide +kernel) (.inl ⟨by rfl, fun _ hw => ⟨run_eq_of (fun K hK => ?_), ?_⟩⟩) ?_
      · skip
        go_simp
        try go_ints
        exact hK
      · skip
        rw [listed_nil (by simp [go_sem, *])]; exact hT.idle _ _
      try walk_nrm
      refine anyR_take (i := 1) (v := .bool true) rfl (by decide +kernel) (by decide +kernel) (by decide +kernel) (.inl ⟨by rfl, fun _ hw => ⟨run_eq_of (fun K hK => ?_), ?_⟩⟩) ?_
      · skip
        go_simp
        try go_ints
        exact hK
      · skip
        rw [listed_nil (by simp [go_sem, *])]; exact hT.idle _ _
      try walk_nrm
      refine anyR_take (i := 2) (v := .bool true) rfl (by decide +kernel) (by decide +kernel) (by decide +kernel) (.inl ⟨by rfl, fun _ hw => ⟨run_eq_of (fun K hK => ?_), ?_⟩⟩) ?_
      · skip
        go_simp
        try go_ints
        exact hK
      · skip
        rw [listed_nil (by simp [go_sem, *])]; exact hT.idle _ _
      try walk_nrm
      refine anyR_take (i := 3) (v := .slice (some ⟨N, 0, none⟩) nn nn) rfl (by decide +kernel) (by decide +kernel) (by decide +kernel) (.inl ⟨by rfl, fun _ hw => ⟨run_eq_of (fun K hK => ?_), ?_⟩⟩) ?_
      · skip
        go_simp
        try go_ints
        exact hK
      · skip
        rw [listed_nil (by simp [go_sem, *])]; exact hT.idle _ _
      try walk_nrm
      refine anyR_take (i := 4) (v := .int .i64 (Q : Int)) rfl (by decide +kernel) (by decide +kernel) (by decide +kernel) (.inl ⟨by rfl, fun _ hw => ⟨run_eq_of (fun K hK => ?_), ?_⟩⟩) ?_
      · skip
        go_simp
        try go_ints
        exact hK
      · skip
        rw [listed_nil (by simp [go_sem, *])]; exact hT.idle _ _
      try walk_nrm
      refine anyR_take (i := 5) (v := .pointer (some ⟨N, Q, none⟩)) rfl (by decide +kernel) (by decide +kernel) (by decide +kernel) (.inl ⟨by rfl, fun _ hw => ⟨run_eq_of (fun K hK => ?_), ?_⟩⟩) ?_
      · skip
        go_simp
        try go_ints
        exact hK
      · skip
        rw [listed_nil (by simp [go_sem, *])]; exact hT.idle _ _
      try walk_nrm
      refine anyR_take (i := 6) (v := .int .i64 (nth ys Q)) rfl (by decide +kernel) (by decide +kernel) (by decide +kernel) (.inl ⟨by rfl, fun _ hw => ⟨run_eq_of (fun K hK => ?_), ?_⟩⟩) ?_
      · have hce := hw.own.cell hl2.out
        go_simp
        try go_ints
        exact hK
      · have hce := hw.own.cell hl2.out
        refine dg_reads ?_
        co_evs (exact evm_read (.inl hw.mN))
      try walk_nrm
      refine anyR_take (i := 7) (v := .int .i64 (nn : Int)) rfl (by decide +kernel) (by decide +kernel) (by decide +kernel) (.inl ⟨by rfl, fun _ hw => ⟨run_eq_of (fun K hK => ?_), ?_⟩⟩) ?_
      · have hce := cell_of_heap (k := 0) (v := .int .i64 nn) hw.bx rfl
        go_simp
        try go_ints
        exact hK
      · have hce := cell_of_heap (k := 0) (v := .int .i64 nn) hw.bx rfl
        refine dg_reads ?_
        co_evs (exact evm_read (.inl hw.mb))
      try walk_nrm
      refine anyR_take (i := 8) (v := .int .i64 ((nn : Int) - 1)) rfl (by decide +kernel) (by decide +kernel) (by decide +kernel) (.inl ⟨by rfl, fun _ hw => ⟨run_eq_of (fun K hK => ?_), ?_⟩⟩) ?_
      · skip
        go_simp
        try go_ints
        exact hK
      · skip
        rw [listed_nil (by simp [go_sem, *])]; exact hT.idle _ _
      try walk_nrm
      refine anyR_take (i := 9) (v := .bool true) rfl (by decide +kernel) (by decide +kernel) (by decide +kernel) (.inl ⟨by rfl, fun _ hw => ⟨run_eq_of (fun K hK => ?_), ?_⟩⟩) ?_
      · skip
        go_simp
        try go_ints
        exact hK
      · skip
        rw [listed_nil (by simp [go_sem, *])]; exact hT.idle _ _
      try walk_nrm
      refine anyR_take (i := 10) (v := .bool true) rfl (by decide +kernel) (by decide +kernel) (by decide +kernel) (.inl ⟨by rfl, fun _ hw => ⟨run_eq_of (fun K hK => ?_), ?_⟩⟩) ?_
      · skip
        go_simp
        try go_ints
        exact hK
      · skip
        rw [listed_nil (by simp [go_sem, *])]; exact hT.idle _ _
      try walk_nrm
      refine anyR_done (by first | kernel_rfl | decide +kernel) (fun _ hF => ?_) _
      repeat (first | refine t_seq hT ?_ | refine t_block hT ?_ | refine t_skip hT ?_ | refine t_inBlock hT ?_ | refine t_rend hT ?_ | refine t_exit hT rfl ?_)
      refine t_cond hT (t := _) rfl ?_
      simp only [if_true, if_false, reduceIte, Bool.false_eq_true, *]
      repeat (first | refine t_seq hT ?_ | refine t_block hT ?_ | refine t_skip hT ?_ | refine t_inBlock hT ?_ | refine t_rend hT ?_ | refine t_exit hT rfl ?_)
      refine t_region hT [0, 1, 2, 3] rfl ?_
      refine t_op hT rfl (by rfl) (by first | decide | assumption) (by first | rfl | (rw [hro]; rfl)) (fun _ hR K hK => ?_)
      replace hF := hF.rely A.rely hR
      clear hR
      go_simp
      try (unfold stored; go_simp)
      try go_ints
      refine hK _ _ y3 (by rw [listed_nil (by simp [go_sem, *])]; exact hT.idle _ _) ?_
      clear hK K
      try walk_nrm
      refine t_op hT rfl (by rfl) (by first | decide | assumption) (by first | rfl | (rw [hro]; rfl)) (fun _ hR K hK => ?_)
      replace hF := hF.rely A.rely hR
      clear hR
      go_simp
      try (unfold stored; go_simp)
      try go_ints
      refine hK _ _ y3 (by rw [listed_nil (by simp [go_sem, *])]; exact hT.idle _ _) ?_
      clear hK K
      try walk_nrm
      refine t_op hT rfl (by rfl) (by first | decide | assumption) (by first | rfl | (rw [hro]; rfl)) (fun _ hR K hK => ?_)
      replace hF := hF.rely A.rely hR
      clear hR
      go_simp
      try (unfold stored; go_simp)
      try go_ints
      refine hK _ _ y3 (by rw [listed_nil (by simp [go_sem, *])]; exact hT.idle _ _) ?_
      clear hK K
      try walk_nrm
      refine t_op hT rfl (by rfl) (by first | decide | assumption) (by first | rfl | (rw [hro]; rfl)) (fun _ hR K hK => ?_)
      replace hF := hF.rely A.rely hR
      clear hR
      have hcl := hF.own.cell hl2.out; have hfz := hF.own.frozen Q
      go_simp
      try (unfold stored; go_simp)
      try go_ints
      refine hK _ _ y3 (dg_store hF.mN (by co_evs (exact evm_write hF.mN))) ?_
      clear hK K
      try walk_nrm
      replace hF := hF.store A.rely hB Q 0
      clear hcl hfz
      repeat (first | refine t_seq hT ?_ | refine t_block hT ?_ | refine t_skip hT ?_ | refine t_inBlock hT ?_ | refine t_rend hT ?_ | refine t_exit hT rfl ?_)
      refine t_region hT [0, 1, 2] rfl ?_
      refine t_op hT rfl (by rfl) (by first | decide | assumption) (by first | rfl | (rw [hro]; rfl)) (fun _ hR K hK => ?_)
      replace hF := hF.rely A.rely hR
      clear hR
      go_simp
      try (unfold stored; go_simp)
      try go_ints
      refine hK _ _ y3 (by rw [listed_nil (by simp [go_sem, *])]; exact hT.idle _ _) ?_
      clear hK K
      try walk_nrm
      refine t_op hT rfl (by rfl) (by first | decide | assumption) (by first | rfl | (rw [hro]; rfl)) (fun _ hR K hK => ?_)
      replace hF := hF.rely A.rely hR
      clear hR
      go_simp
      try (unfold stored; go_simp)
      try go_ints
      refine hK _ _ y3 (by rw [listed_nil (by simp [go_sem, *])]; exact hT.idle _ _) ?_
      clear hK K
      try walk_nrm
      refine t_op hT rfl (by rfl) (by first | decide | assumption) (by first | rfl | (rw [hro]; rfl)) (fun _ hR K hK => ?_)
      replace hF := hF.rely A.rely hR
      clear hR
      go_simp
      try (unfold stored; go_simp)
      try go_ints
      refine hK _ _ y3 (by rw [listed_nil (by simp [go_sem, *])]; exact hT.idle _ _) ?_
      clear hK K
      try walk_nrm
      repeat (first | refine t_seq hT ?_ | refine t_block hT ?_ | refine t_skip hT ?_ | refine t_inBlock hT ?_ | refine t_rend hT ?_ | refine t_exit hT rfl ?_)
      refine IH2 _ _ _ ⟨rfl, rfl, q', ys.set Q 0, rfl, rfl, rfl, congrArg (Value.int .i64) hq1.out, by omega, ?_, by simp; exact hyl, rfl, hF⟩ ?_
      · rw [HC.out, ← hQ]
        show carryR nn (q' + 1) ys = _
        conv => lhs; unfold carryR
        rw [if_pos (by rw [hQ]; exact HE.out)]
      · show natOf (.int .i64 ((Q : Int) - 1)) < natOf (J 5)
        rw [hμ, hq1.out]
        show ((q' : Nat) : Int).toNat < _
        rw [Int.toNat_natCast]
        omega
    · have hd : (nth ys Q == (nn : Int) - 1) = false := by simpa using he
      have HE := hid he
      clear he
      repeat (first | refine t_seq hT ?_ | refine t_block hT ?_ | refine t_skip hT ?_ | refine t_inBlock hT ?_ | refine t_rend hT ?_ | refine t_exit hT rfl ?_)
      refine t_drawR hT (S := (fun W => It ty Wg S Fx l b2 N LO nn ys y w y3 W)) (fun _ _ h r => h.rely A.rely r) (fun _ h => h.rely A.rely ⟨fun _ _ => rfl, Nat.le_refl _, id⟩) (by first | kernel_rfl | rfl) (by first | decide | assumption) rfl hF ?_
      refine anyR_take (i := 0) (v := .int .i64 (Q : Int)) rfl (by decide +kernel) (by decide +kernel) (by decide +kernel) (.inl ⟨by rfl, fun _ hw => ⟨run_eq_of (fun K hK => ?_), ?_⟩⟩) ?_
      · skip
        go_simp
        try go_ints
        exact hK
      · skip
        rw [listed_nil (by simp [go_sem, *])]; exact hT.idle _ _
      try walk_nrm
      refine anyR_take (i := 1) (v := .bool true) rfl (by decide +kernel) (by decide +kernel) (by decide +kernel) (.inl ⟨by rfl, fun _ hw => ⟨run_eq_of (fun K hK => ?_), ?_⟩⟩) ?_
      · skip
        go_simp
        try go_ints
        exact hK
      · skip
        rw [listed_nil (by simp [go_sem, *])]; exact hT.idle _ _
      try walk_nrm
      refine anyR_take (i := 2) (v := .bool true) rfl (by decide +kernel) (by decide +kernel) (by decide +kernel) (.inl ⟨by rfl, fun _ hw => ⟨run_eq_of (fun K hK => ?_), ?_⟩⟩) ?_
      · skip
        go_simp
        try go_ints
        exact hK
      · skip
        rw [listed_nil (by simp [go_sem, *])]; exact hT.idle _ _
      try walk_nrm
      refine anyR_take (i := 3) (v := .slice (some ⟨N, 0, none⟩) nn nn) rfl (by decide +kernel) (by decide +kernel) (by decide +kernel) (.inl ⟨by rfl, fun _ hw => ⟨run_eq_of (fun K hK => ?_), ?_⟩⟩) ?_
      · skip
        go_simp
        try go_ints
        exact hK
      · skip
        rw [listed_nil (by simp [go_sem, *])]; exact hT.idle _ _
      try walk_nrm
      refine anyR_take (i := 4) (v := .int .i64 (Q : Int)) rfl (by decide +kernel) (by decide +kernel) (by decide +kernel) (.inl ⟨by rfl, fun _ hw => ⟨run_eq_of (fun K hK => ?_), ?_⟩⟩) ?_
      · skip
        go_simp
        try go_ints
        exact hK
      · skip
        rw [listed_nil (by simp [go_sem, *])]; exact hT.idle _ _
      try walk_nrm
      refine anyR_take (i := 5) (v := .pointer (some ⟨N, Q, none⟩)) rfl (by decide +kernel) (by decide +kernel) (by decide +kernel) (.inl ⟨by rfl, fun _ hw => ⟨run_eq_of (fun K hK => ?_), ?_⟩⟩) ?_
      · skip
        go_simp
        try go_ints
        exact hK
      · skip
        rw [listed_nil (by simp [go_sem, *])]; exact hT.idle _ _
      try walk_nrm
      refine anyR_take (i := 6) (v := .int .i64 (nth ys Q)) rfl (by decide +kernel) (by decide +kernel) (by decide +kernel) (.inl ⟨by rfl, fun _ hw => ⟨run_eq_of (fun K hK => ?_), ?_⟩⟩) ?_
      · have hce := hw.own.cell hl2.out
        go_simp
        try go_ints
        exact hK
      · have hce := hw.own.cell hl2.out
        refine dg_reads ?_
        co_evs (exact evm_read (.inl hw.mN))
      try walk_nrm
      refine anyR_take (i := 7) (v := .int .i64 (nn : Int)) rfl (by decide +kernel) (by decide +kernel) (by decide +kernel) (.inl ⟨by rfl, fun _ hw => ⟨run_eq_of (fun K hK => ?_), ?_⟩⟩) ?_
      · have hce := cell_of_heap (k := 0) (v := .int .i64 nn) hw.bx rfl
        go_simp
        try go_ints
        exact hK
      · have hce := cell_of_heap (k := 0) (v := .int .i64 nn) hw.bx rfl
        refine dg_reads ?_
        co_evs (exact evm_read (.inl hw.mb))
      try walk_nrm
      refine anyR_take (i := 8) (v := .int .i64 ((nn : Int) - 1)) rfl (by decide +kernel) (by decide +kernel) (by decide +kernel) (.inl ⟨by rfl, fun _ hw => ⟨run_eq_of (fun K hK => ?_), ?_⟩⟩) ?_
      · skip
        go_simp
        try go_ints
        exact hK
      · skip
        rw [listed_nil (by simp [go_sem, *])]; exact hT.idle _ _
      try walk_nrm
      refine anyR_take (i := 9) (v := .bool false) rfl (by decide +kernel) (by decide +kernel) (by decide +kernel) (.inl ⟨by rfl, fun _ hw => ⟨run_eq_of (fun K hK => ?_), ?_⟩⟩) ?_
      · skip
        go_simp
        try go_ints
        exact hK
      · skip
        rw [listed_nil (by simp [go_sem, *])]; exact hT.idle _ _
      try walk_nrm
      refine anyR_take (i := 10) (v := .bool false) rfl (by decide +kernel) (by decide +kernel) (by decide +kernel) (.inl ⟨by rfl, fun _ hw => ⟨run_eq_of (fun K hK => ?_), ?_⟩⟩) ?_
      · skip
        go_simp
        try go_ints
        exact hK
      · skip
        rw [listed_nil (by simp [go_sem, *])]; exact hT.idle _ _
      try walk_nrm
      refine anyR_done (by first | kernel_rfl | decide +kernel) (fun _ hF => ?_) _
      repeat (first | refine t_seq hT ?_ | refine t_block hT ?_ | refine t_skip hT ?_ | refine t_inBlock hT ?_ | refine t_rend hT ?_ | refine t_exit hT rfl ?_)
      refine t_cond hT (t := _) rfl ?_
      simp only [if_true, if_false, reduceIte, Bool.false_eq_true, *]
      repeat (first | refine t_seq hT ?_ | refine t_block hT ?_ | refine t_skip hT ?_ | refine t_inBlock hT ?_ | refine t_rend hT ?_ | refine t_exit hT rfl ?_)
      refine t_region hT [0, 1] rfl ?_
      have hne0 : ((Q : Int) == 0) = false := by simp; omega
      refine t_op hT rfl (by rfl) (by first | decide | assumption) (by first | rfl | (rw [hro]; rfl)) (fun _ hR K hK => ?_)
      replace hF := hF.rely A.rely hR
      clear hR
      go_simp
      try (unfold stored; go_simp)
      try go_ints
      refine hK _ _ y3 (by rw [listed_nil (by simp [go_sem, *])]; exact hT.idle _ _) ?_
      clear hK K
      try walk_nrm
      refine t_op hT rfl (by rfl) (by first | decide | assumption) (by first | rfl | (rw [hro]; rfl)) (fun _ hR K hK => ?_)
      replace hF := hF.rely A.rely hR
      clear hR
      go_simp
      try (unfold stored; go_simp)
      try go_ints
      refine hK _ _ y3 (by rw [listed_nil (by simp [go_sem, *])]; exact hT.idle _ _) ?_
      clear hK K
      try walk_nrm
      repeat (first | refine t_seq hT ?_ | refine t_block hT ?_ | refine t_skip hT ?_ | refine t_inBlock hT ?_ | refine t_rend hT ?_ | refine t_exit hT rfl ?_)
      refine t_cond hT (t := _) rfl ?_
      simp only [if_true, if_false, reduceIte, Bool.false_eq_true, *]
      repeat (first | refine t_seq hT ?_ | refine t_block hT ?_ | refine t_skip hT ?_ | refine t_inBlock hT ?_ | refine t_rend hT ?_ | refine t_exit hT rfl ?_)
      have hcr : carryR nn (nn - 1) xs = (ys, Q) := by
        rw [HC.out, ← hQ]
        show carryR nn (q' + 1) ys = _
        unfold carryR
        rw [if_neg (by rw [hQ]; exact HE.out)]
      have hnx : nextR nn xs = some (ys.set Q (nth ys Q + 1)) := by unfold nextR; rw [hcr]; exact if_neg (show ¬ Q = 0 by omega)
      cases tl with
      | nil =>
        have := hch.2.2
        rw [hnx] at this
        cases this
      | cons zs t =>
        obtain ⟨hz, hch'⟩ := hch.2.2
        rw [hnx] at hz
        have hz' : zs = ys.set Q (nth ys Q + 1) := (Option.some.inj hz).symm
        have hzb : 0 ≤ nth ys Q + 1 ∧ nth ys Q + 1 < nn := by
          have h1 : nth zs Q = nth ys Q + 1 := by
            have := hl2.out
            rw [hz']
            unfold nth
            rw [List.getElem?_set_self this]
            rfl
          have h2 := hch'.2.1 (nth zs Q) (nth_mem (by rw [hz', List.length_set]; exact hl2.out))
          rw [h1] at h2
          exact h2
        clear hnx hcr hz
        refine t_region hT [0, 1, 2, 3, 4, 5, 6] rfl ?_
        refine t_op hT rfl (by rfl) (by first | decide | assumption) (by first | rfl | (rw [hro]; rfl)) (fun _ hR K hK => ?_)
        replace hF := hF.rely A.rely hR
        clear hR
        go_simp
        try (unfold stored; go_simp)
        try go_ints
        refine hK _ _ y3 (by rw [listed_nil (by simp [go_sem, *])]; exact hT.idle _ _) ?_
        clear hK K
        try walk_nrm
        refine t_op hT rfl (by rfl) (by first | decide | assumption) (by first | rfl | (rw [hro]; rfl)) (fun _ hR K hK => ?_)
        replace hF := hF.rely A.rely hR
        clear hR
        go_simp
        try (unfold stored; go_simp)
        try go_ints
        refine hK _ _ y3 (by rw [listed_nil (by simp [go_sem, *])]; exact hT.idle _ _) ?_
        clear hK K
        try walk_nrm
        refine t_op hT rfl (by rfl) (by first | decide | assumption) (by first | rfl | (rw [hro]; rfl)) (fun _ hR K hK => ?_)
        replace hF := hF.rely A.rely hR
        clear hR
        go_simp
        try (unfold stored; go_simp)
        try go_ints
        refine hK _ _ y3 (by rw [listed_nil (by simp [go_sem, *])]; exact hT.idle _ _) ?_
        clear hK K
        try walk_nrm
        refine t_op hT rfl (by rfl) (by first | decide | assumption) (by first | rfl | (rw [hro]; rfl)) (fun _ hR K hK => ?_)
        replace hF := hF.rely A.rely hR
        clear hR
        have hce := hF.own.cell hl2.out
        go_simp
        try (unfold stored; go_simp)
        try go_ints
        refine hK _ _ y3 (dg_reads ?_) ?_
        · co_evs (exact evm_read (.inl hF.mN))
        clear hK K
        try walk_nrm
        clear hce
        refine t_op hT rfl (by rfl) (by first | decide | assumption) (by first | rfl | (rw [hro]; rfl)) (fun _ hR K hK => ?_)
        replace hF := hF.rely A.rely hR
        clear hR
        go_simp
        try (unfold stored; go_simp)
        try go_ints
        refine hK _ _ y3 (by rw [listed_nil (by simp [go_sem, *])]; exact hT.idle _ _) ?_
        clear hK K
        try walk_nrm
        refine t_op hT rfl (by rfl) (by first | decide | assumption) (by first | rfl | (rw [hro]; rfl)) (fun _ hR K hK => ?_)
        replace hF := hF.rely A.rely hR
        clear hR
        go_simp
        try (unfold stored; go_simp)
        try go_ints
        refine hK _ _ y3 (by rw [listed_nil (by simp [go_sem, *])]; exact hT.idle _ _) ?_
        clear hK K
        try walk_nrm
        refine t_op hT rfl (by rfl) (by first | decide | assumption) (by first | rfl | (rw [hro]; rfl)) (fun _ hR K hK => ?_)
        replace hF := hF.rely A.rely hR
        clear hR
        have hcl := hF.own.cell hl2.out; have hfz := hF.own.frozen Q
        go_simp
        try (unfold stored; go_simp)
        try go_ints
        refine hK _ _ y3 (dg_store hF.mN (by co_evs (exact evm_write hF.mN))) ?_
        clear hK K
        try walk_nrm
        replace hF := hF.store A.rely hB Q (nth ys Q + 1)
        rw [← hz'] at hF
        repeat (first | refine t_seq hT ?_ | refine t_block hT ?_ | refine t_skip hT ?_ | refine t_inBlock hT ?_ | refine t_rend hT ?_ | refine t_exit hT rfl ?_)
        exact IH (zs :: t) _ _ _ ⟨rfl, rfl, zs, t, rfl, hch', rfl, rfl, rfl, hy3, hF⟩ (by simp)
end

end Go.Proofs.Ytkbfcaaihellfaa

/- Walks in company: a worker from its start to the close of its lane. -/
namespace Go.Proofs.Ytkbfcaaihellfaa
open Go.Conc Go.ConcN Go.RowKit
open Go.ConcR (DC0)
set_option linter.unusedVariables false
set_option linter.unusedSectionVars false

section
variable {P : Program} {main : Bool} {γ : Type} {R : γ → World → World → Prop} {D : γ → World → World → Array Event → γ → Prop} {T : γ → Goroutine → World → Prop}
variable {b : Frame} {a : Act} {k : List Item} {cs : List Frame} {y : γ} {w : World} {ops : Array Oper}
theorem sG_deferOp {i : Nat} {rest : List Nat} {o : Oper} {d : Deferred} (ho : ops[i]? = some o) (hw : Region.wanted o (yielded ops a.tmps) = true) (hk : b.kind ≠ .early) (hs : o.semAt b.roundOf a.eval = execOp a.eval o)
    (hr : (execOp a.eval o).run P w = .ok (.defer d) w) (he : (execOp a.eval o).events P w #[] = #[]) :
    stepG P main (G (b.atR a (.inRegion ops (i :: rest) :: k)) cs) w = .go (G (b.atR (Act.put ⟨a.tmps, d :: a.defers⟩ o.dst undef) (.inRegion ops rest :: k)) cs) w #[] := by
  have hfin : (b.atR ⟨a.tmps, d :: a.defers⟩ (.inRegion ops (i :: rest) :: k)).finish undef = b.atR (Act.put ⟨a.tmps, d :: a.defers⟩ o.dst undef) (.inRegion ops rest :: k) := by rw [Frame.finish_atR, ho]; rfl
  have hk' : (b.kind == CallKind.early) = false := by simpa using hk
  rw [sG_op ho hw hs, ← hfin]
  simp [stepG.apply, hr, he, G, Frame.atR, hk', GStep.after, seen_none]
/-- A DEFER. -/
theorem t_defer (hT : Clo P main R D T) {i : Nat} {rest : List Nat} {o : Oper} {d : Deferred} (ho : ops[i]? = some o) (hw : Region.wanted o (yielded ops a.tmps) = true) (hk : b.kind ≠ .early) (hs : o.semAt b.roundOf a.eval = execOp a.eval o)
    (hr : ∀ w, (execOp a.eval o).run P w = .ok (.defer d) w) (he : ∀ w, (execOp a.eval o).events P w #[] = #[]) (h : T y (G (b.atR (Act.put ⟨a.tmps, d :: a.defers⟩ o.dst undef) (.inRegion ops rest :: k)) cs) w) : T y (G (b.atR a (.inRegion ops (i :: rest) :: k)) cs) w :=
  hT.ctl rfl (fun w => sG_deferOp ho hw hk hs (hr w) (he w)) h
/-- The end of a frame's code. -/
theorem t_out (hT : Clo P main R D T) (hro : b.roundOf = none) (h : T y (G { b.atR a [] with mode := .returning } cs) w) : T y (G (b.atR a []) cs) w :=
  hT.ctl rfl (fun w => by rw [Frame.atR_of_none hro]; exact stepG_end) h
theorem enterD_atR {f : FuncId} {fn : Func} {c : Code} (args : Array Value) (hf : P.funcs[f]? = some fn) (hb : fn.body = some c) :
    Frame.enter P f args .deferred = (baseD f).atR { tmps := args ++ Array.replicate (fn.ntmps - args.size) undef, defers := [] } [.code c] := by
  rw [enter_atD args hf hb]; rfl
end

/-- the call that a go statement of mapsThat's holds -/
def call58 (v0 : Value) (bL bT bF bX : Nat) : Deferred := { target := .fn (.func 58) #[v0, .pointer (some ⟨bL, 0, none⟩), .pointer (some ⟨bT, 0, none⟩), .pointer (some ⟨bF, 0, none⟩), .pointer (some ⟨bX, 0, none⟩)], args := #[] }
/-- what stands below a goroutine's first frame -/
noncomputable def botW : Frame := { (default : Frame) with fn := Try.prog.funcs.size, defers := [], mode := .panicking [goexitEntry] }
theorem born58 (v0 : Value) (bL bT bF bX : Nat) (w : World) : stepG Try.prog false (born Try.prog (call58 v0 bL bT bF bX)) w =
    .go (G (Frame.enter Try.prog 58 #[v0, .pointer (some ⟨bL, 0, none⟩), .pointer (some ⟨bT, 0, none⟩), .pointer (some ⟨bF, 0, none⟩), .pointer (some ⟨bX, 0, none⟩)] .deferred) [botW]) w #[] := by
  have h1 : ¬ Try.f58.name = "runtime.NumGoroutine" := by decide
  have h2 : ¬ Try.f58.body = none := by simp [Try.f58]
  simp [born, call58, botW, stepG, unwind, callDeferred, invoke, callFunc, Try.func58, h1, h2, seen_none, GStep.after, G]
/-- its close -/
def close58 (t : TypeId) (c : Nat) : Deferred := { target := .builtin .close #[t] 0 #[false], args := #[.chan (some c)] }

section
variable [Go.ConcR.Payload] {ty : TypeId} {Wg C n LW : Nat} {S : Nat → Prop} {c k : Nat} {y : Gh} {w : World}
variable {Fx : World → Prop} {bL bX fF : Nat} {cap : Array Value} {p : List Int → Bool}
/-- on its way out, the close behind it -/
noncomputable def OutW (v0 : Value) (T : Array Value) : Goroutine := G { (baseD 58).atR ⟨T, [dcall 59 #[v0]]⟩ [] with mode := .returning } [botW]
theorem close_step (t : TypeId) (v0 : Value) (T : Array Value) (s : Nat) (hc : w.heap[c]? = some (.chan 0 #[] false s s false)) :
    stepG Try.prog false (G { (baseD 58).atR ⟨T, [close58 t c, dcall 59 #[v0]]⟩ [] with mode := .returning } [botW]) w = .go (OutW v0 T) (w.setChan c 0 #[] true s s false) (closeEvents c) := by
  have hr := run_close_open (P := Try.prog) #[t] 0 hc
  have he := events_close_open (P := Try.prog) (es := #[]) #[t] 0 hc
  have hs : seen Try.prog 58 (closeEvents c) = closeEvents c := seen_eq (by rw [Try.func58]; rfl) (by intro e he f; simp only [closeEvents, List.mem_toArray, List.mem_cons, List.not_mem_nil, or_false] at he; rcases he with rfl | rfl <;> simp)
  have hs' : seen Try.prog 58 #[⟨.obj c, false, true⟩, ⟨.obj c, true, true⟩] = closeEvents c := hs
  have hI : (invoke (.builtin .close #[t] 0 #[false]) #[.chan (some c)] : Sem Next) = (do pure (.value (← Builtin.close_ #[t] 0 #[.chan (some c)]))) := rfl
  have e1 : (invoke (.builtin .close #[t] 0 #[false]) #[.chan (some c)] : Sem Next).runT Try.prog w #[] = (.ok (.value (.tuple #[])) (w.setChan c 0 #[] true s s false), #[⟨.obj c, false, true⟩, ⟨.obj c, true, true⟩]) := by
    rw [hI, ← Prod.eta (Sem.runT _ _ w #[])]
    simp [hr, he, World.setChan]
  generalize hW : w.setChan c 0 #[] true s s false = W at e1 ⊢
  simp only [G, OutW, stepG, unwind, callDeferred, Frame.atR, close58, e1]
  simp [GStep.after, baseD, hs']
set_option maxHeartbeats 4000000 in
/-- A WORKER, from its start. -/
theorem worker_g (A : Around ty Wg C n LW S c k Fx bL bX fF cap p) (v0 : Value) (bT bF : Nat) {nn first : Nat} (R : List (List Int)) (h0 : 1 ≤ nn) (hnn : nn ≤ 7) (hfi : first < nn)
    (hR : ChainR nn R) (hR0 : R.head? = some ((first : Int) :: List.replicate (nn - 1) 0)) (hB : Bd S y w) (hfx : Fx w) (hrows : y.2 = R.filter p) (hsT : S bT) (hsF : S bF)
    (hbT : ∀ w, Fx w → w.cell? ⟨bT, 0, none⟩ = some (.int .i64 nn)) (hbF : ∀ w, Fx w → w.cell? ⟨bF, 0, none⟩ = some (.int .i64 first))
    (hdone : ∀ (T : Array Value) (w : World), WgLive ty Wg w → Has C (k - 1) (.chan (some c)) w → ∃ m, Goes Try.prog false (RW ty Wg C n LW (k - 1)) DC0 (AtR0 Try.prog ty Wg C n LW k (.chan (some c))) m (OutW v0 T) w) :
    TW Try.prog ty Wg C n LW RwI S c k y (born Try.prog (call58 v0 bL bT bF bX)) w := by
  have hT := clo_w (P := Try.prog) (ty := ty) (Wg := Wg) (C := C) (n := n) (LW := LW) (Rw := RwI) (S := S) (c := c) (k := k)
  have hTw := hT
  refine hT.ctl rfl (fun w => born58 v0 bL bT bF bX w) ?_
  rw [enterD_atR _ Try.func58 (by rfl)]
  obtain ⟨b8, hb8⟩ : ∃ b8 : Frame, b8 = baseD 58 := ⟨_, rfl⟩
  have hro : b8.roundOf = none := by rw [hb8]; rfl
  have hk : b8.kind ≠ .early := by rw [hb8]; decide
  have hfn : b8.fn = 58 := by rw [hb8]; rfl
  rw [← hb8]
  simp only [Try.ntmps58, List.size_toArray, List.length_cons, List.length_nil, Nat.reduceAdd, Nat.reduceSub, Array.replicate_succ, Array.replicate_zero, List.push_toArray, List.append_toArray, List.nil_append, List.cons_append]
  have hIter := fun (y' : Gh) (w' : World) (v6 v7 v8 v9 : Value) (l r b2 b3 : Nat) => iter_g (y := y') (w := w') A v0 bT bF v6 v7 v8 v9 l r b2 b3 first R h0 hnn hfi hR hR0
  generalize hTT : TW Try.prog ty Wg C n LW RwI S c k = T at hT hIter ⊢
  generalize hrf : rf58.1 = rfA at hIter
  generalize hrg : rf58.2 = rfB at hIter
  simp only [rf58, Try.f58] at hrf hrg
  have hF : Gw ty Wg S y w y w ∧ Fx w := ⟨Gw.refl hB, hfx⟩
  repeat (first | refine t_seq hT ?_ | refine t_block hT ?_ | refine t_skip hT ?_ | refine t_inBlock hT ?_ | refine t_rend hT ?_ | refine t_exit hT rfl ?_)
  refine t_region hT [0] rfl ?_
  refine t_defer hT (d := dcall 59 #[v0]) rfl (by rfl) hk (by rw [hro]; rfl) (fun w => by unfold execOp; simp [resolve, Deferred.ofValue, Act.eval, dcall]) (fun w => by unfold execOp; simp [resolve, Deferred.ofValue, Act.eval]) ?_
  try walk_nrm
  repeat (first | refine t_seq hT ?_ | refine t_block hT ?_ | refine t_skip hT ?_ | refine t_inBlock hT ?_ | refine t_rend hT ?_ | refine t_exit hT rfl ?_)
  refine t_region hT [0, 1] rfl ?_
  refine t_op hT rfl (by rfl) (by first | decide | assumption) (by first | rfl | (rw [hro]; rfl)) (fun _ hR K hK => ?_)
  replace hF := And.intro (hF.1.rely hR) (A.fx hR hF.2)
  clear hR
  have hce := A.lane _ hF.2
  go_simp
  try (unfold stored; go_simp)
  try go_ints
  refine hK _ _ y (dg_reads ?_) ?_
  · co_evs (exact evm_read (.inr A.sl))
  clear hK K
  try walk_nrm
  clear hce
  refine t_defer hT (d := close58 62 c) rfl (by rfl) hk (by rw [hro]; rfl) (fun w => by unfold execOp; simp [resolve, Act.eval, close58]) (fun w => by unfold execOp; simp [resolve, Act.eval]) ?_
  try walk_nrm
  repeat (first | refine t_seq hT ?_ | refine t_block hT ?_ | refine t_skip hT ?_ | refine t_inBlock hT ?_ | refine t_rend hT ?_ | refine t_exit hT rfl ?_)
  refine t_region hT [0, 1, 2] rfl ?_
  refine t_op hT rfl (by rfl) (by first | decide | assumption) (by first | rfl | (rw [hro]; rfl)) (fun _ hR K hK => ?_)
  replace hF := And.intro (hF.1.rely hR) (A.fx hR hF.2)
  clear hR
  have hce := hbT _ hF.2
  go_simp
  try (unfold stored; go_simp)
  try go_ints
  refine hK _ _ y (dg_reads ?_) ?_
  · co_evs (exact evm_read (.inr hsT))
  clear hK K
  try walk_nrm
  clear hce
  refine t_op hT rfl (by rfl) (by first | decide | assumption) (by first | rfl | (rw [hro]; rfl)) (fun _ hR K hK => ?_)
  replace hF := And.intro (hF.1.rely hR) (A.fx hR hF.2)
  clear hR
  have hce := hbF _ hF.2
  go_simp
  try (unfold stored; go_simp)
  try go_ints
  refine hK _ _ y (dg_reads ?_) ?_
  · co_evs (exact evm_read (.inr hsF))
  clear hK K
  try walk_nrm
  clear hce
  refine t_call hT rfl (by rfl) (by first | decide | assumption) (by first | rfl | (rw [hro]; rfl)) rfl Try.func60 (by rfl) rfl (by walk_nrm; exact mapsFrom_g hT nn first hF.1.bd) ?_
  rintro _ y1 w1 ⟨b2, b3, rfl, hm2, hm3, hh2, hh3, gw⟩
  replace hF := And.intro (hF.1.trans gw) (A.fx gw.rg hF.2)
  clear gw
  try walk_nrm
  repeat (first | refine t_seq hT ?_ | refine t_block hT ?_ | refine t_skip hT ?_ | refine t_inBlock hT ?_ | refine t_rend hT ?_ | refine t_exit hT rfl ?_)
  rw [hrf, hrg]
  refine t_rangeFunc hT hro hk rfl Try.func84 (by rfl) rfl hF.1.bd (fun w₁ y2 w2 r l hR gw hmr hml hrl hhr hhl hnew => ?_)
  rw [hfn] at hhl
  have hfx2 : Fx w2 := A.fx gw.rg (A.fx hR hF.2)
  have hk2 := (gw.rg.keep b2 (.inl hm2)).trans ((hR.keep b2 (.inl hm2)).trans hh2)
  have hk3 := (gw.rg.keep b3 (.inl hm3)).trans ((hR.keep b3 (.inl hm3)).trans hh3)
  refine hIter y2 w2 _ _ _ _ l r b2 b3 (fun e => (hnew l (.inr e)).2 rfl) ((hnew b2 (.inl hm2)).2) gw.bd hml hhl (gw.sub _ hm2) (gw.sub _ hm3) hk2 hk3 hfx2 (gw.rows.trans (hF.1.rows.trans hrows)) _ _ (fun v y3 w3 hp => ?_)
  obtain ⟨rfl, hrows3, g3, hl3⟩ := hp
  have hr3 := (g3.keep r (.inl hmr) hrl).trans hhr
  have hmr3 := g3.sub _ hmr
  have hml3 := g3.sub _ hml
  refine t_endRange (k := [.inBlock 0]) (a := ⟨_, ⟨.collected r, #[]⟩ :: _⟩) hT hml3 hl3 (fun w4 hR4 hl4 => ?_)
  have hr4 : (setO w4 l (loopOver 58 (tm58 v0 bL bT bF bX (.chan (some c)) (.int .i64 nn) (.int .i64 first) (.func (.func 84) #[] #[.pointer (some ⟨b2, 0, none⟩), .pointer (some ⟨b3, 0, none⟩)]) undef) #[10] rfA rfB r)).heap[r]? = some (.deferred (some [])) := (setO_ne hrl).trans ((hR4.keep r (.inl hmr3)).trans hr3)
  refine t_inBlock hT ?_
  refine t_out hT hro ?_
  refine t_take hT hro rfl hmr3 hr4 (fun w5 hR5 hr5 => ?_)
  subst hTT
  unfold TW
  rw [hrows3]
  refine ⟨.leaf, Way.stop fun w6 h6 => ⟨rfl, rfl, OutW v0 (tm58 v0 bL bT bF bX (.chan (some c)) (.int .i64 nn) (.int .i64 first) (.func (.func 84) #[] #[.pointer (some ⟨b2, 0, none⟩), .pointer (some ⟨b3, 0, none⟩)]) undef), rfl, fun s hc d => ?_, fun w7 h7 hl hh => hdone _ _ hl hh⟩⟩
  exact (congrArg (fun b => stepG Try.prog false (G { Frame.atR b _ [] with mode := .returning } [botW]) _) hb8).trans (close_step _ v0 _ s hc)
end
end Go.Proofs.Ytkbfcaaihellfaa
