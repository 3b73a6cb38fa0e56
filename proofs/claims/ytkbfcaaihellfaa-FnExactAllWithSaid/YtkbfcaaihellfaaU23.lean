/- Steps on the way to the law; each part says what it proves. -/
import Derived.Test.YtkbfcaaihellfaaU4
import Derived.Test.YtkbfcaaihellfaaU22
import Derived.Test.YtkbfcaaihellfaaU9
import Derived.Test.YtkbfcaaihellfaaU13
import Derived.BigQuiet
import Derived.Deep.QuietTactic
import Derived.Test.YtkbfcaaihellfaaU14

set_option linter.unusedSimpArgs false

/- mapsThat's head, alone: to its row of lanes. -/
namespace Go.Proofs.Ytkbfcaaihellfaa
open Go.Conc Go.ConcN Go.ConcN.Gen Go.RowKit Go.Conc.Lib Go.ConcR.Gen
open Go.ConcR (KK wgBlock WgAt stA smA rd wr mk Payload Aside2 DC0)
set_option linter.unusedVariables false
set_option linter.unusedSectionVars false

section
variable {P : Program} {Post : Value → World → Prop}
theorem dt_nil {w w' : World} {es : Array Event} (h : es = #[]) (hw : w.heap.size ≤ w'.heap.size) : DT () w w' es () := ⟨hw, by rw [h]; simp⟩
theorem dtn_nil {n : Nat} {w w' : World} {es : Array Event} (h : es = #[]) : DTn n () w w' es () := by rw [h]; simp [DTn]
theorem evP_cell {n : Nat} (a : Addr) (x s : Bool) (h : a.block < n) : EvP n ⟨.cell a, x, s⟩ := ⟨fun m e => (by cases e), fun _ => h⟩
end
theorem infoCh : (Try.prog.info? 62).map (fun i => (i.zero, i.size, i.bytes)) = some (some (.chan none), 1, 8) := by kernel_rfl
theorem run_mkL (n : Nat) (hn : n ≤ 1000000000000) (w : World) :
    (Instr.makeSlice 61 (.int .i64 (n : Int)) (.int .i64 (n : Int))).run Try.prog w = .ok (.slice (some ⟨w.heap.size, 0, none⟩) n n) (w.alloc (.cells (madeCells #[.chan none] n) 62)) := by
  obtain ⟨i0, hi, hz0, hz1, hz2⟩ := info_parts infoCh
  have hr := run_make (P := Try.prog) w 61 62 i0 (.chan none) Try.underlying61 hi hz0 .i64 .i64 n n (by omega) (by omega) (by rw [hz2]; omega) (by omega)
  simp only [Int.toNat_natCast] at hr
  rw [hr, hz1, Nat.mul_one]
  rfl
theorem evs_mkL (n : Nat) (hn : n ≤ 1000000000000) (w : World) (es : Array Event) : (Instr.makeSlice 61 (.int .i64 (n : Int)) (.int .i64 (n : Int))).events Try.prog w es = es := by
  obtain ⟨i0, hi, hz0, hz1, hz2⟩ := info_parts infoCh
  exact events_make (P := Try.prog) w 61 62 i0 (.chan none) Try.underlying61 hi hz0 .i64 .i64 n n (by omega) (by omega) (by rw [hz2]; omega) (by omega) (by rw [hz2]; omega) es

section
variable {Post : Value → World → Prop} {fF nn : Nat} {cap : Array Value} {w : World} {c0 : Frame} {cs : List Frame}
set_option maxHeartbeats 4000000 in
/-- mapsThat, alone, to its row of lanes: the number of things in the first block that it makes, the test in the second, the group in the third, the row in the fourth. -/
theorem head41 (hn7 : nn ≤ 7) (hc : ∀ a w', LiveS (w.heap.size + 2) (w.heap.size + 3) w.heap.size (w.heap.size + 1) nn a → (∀ b, b < w.heap.size → w'.heap[b]? = w.heap[b]?) → w'.heap.size = w.heap.size + 4 → Kept w w' → w'.heap[w.heap.size]? = some (.cells #[.int .i64 nn] 3) →
      w'.heap[w.heap.size + 1]? = some (.cells #[.func (.func fF) #[] cap] 30) → WgAt wgL.tWg (w.heap.size + 2) w' 0 0 → w'.heap[w.heap.size + 3]? = some (.cells (madeCells #[.chan none] nn) 62) →
      LTn Try.prog Post (w.heap.size + 2) () (G ((base 41).atR a [.code s41, .code c41.2]) (c0 :: cs)) w') :
    LT Try.prog Post () (G (Frame.enter Try.prog 41 #[.int .i64 nn, .func (.func fF) #[] cap] .normal) (c0 :: cs)) w := by
  rw [enter_atR _ Try.func41 rfl]
  have hT := clo_lt (P := Try.prog) (Post := Post)
  have hk : (base 41).kind ≠ .early := base_kind _
  have hro : (base 41).roundOf = none := rfl
  simp only [Try.ntmps41, List.size_toArray, List.length_cons, List.length_nil, Nat.reduceAdd, Nat.reduceSub, Array.replicate_succ, Array.replicate_zero, List.push_toArray, List.append_toArray, List.nil_append, List.cons_append]
  generalize hT' : LT Try.prog Post = T at hT ⊢
  repeat (first | refine t_seq hT ?_ | refine t_block hT ?_ | refine t_skip hT ?_ | refine t_inBlock hT ?_ | refine t_rend hT ?_ | refine t_exit hT rfl ?_)
  refine t_region hT [0, 1, 2] rfl ?_
  refine t_op hT rfl (by rfl) (by first | decide | assumption) (by first | rfl | (rw [hro]; rfl)) (fun w₁ hR K hK => ?_)
  have hR2 : _ = w₁ := Eq.symm hR
  subst hR2
  clear hR
  go_simp
  try (unfold stored; go_simp)
  try go_ints
  refine hK _ _ () (dt_nil (listed_nil (by simp [go_sem, *])) (by simp only [alloc_size]; omega)) ?_
  clear hK K
  try walk_nrm
  refine t_op hT rfl (by rfl) (by first | decide | assumption) (by first | rfl | (rw [hro]; rfl)) (fun w₁ hR K hK => ?_)
  have hR2 : _ = w₁ := Eq.symm hR
  subst hR2
  clear hR
  go_simp
  try (unfold stored; go_simp)
  try go_ints
  refine hK _ _ () (dt_nil (listed_nil (by simp [go_sem, *])) (by simp only [alloc_size]; omega)) ?_
  clear hK K
  try walk_nrm
  refine t_op hT rfl (by rfl) (by first | decide | assumption) (by first | rfl | (rw [hro]; rfl)) (fun w₁ hR K hK => ?_)
  have hR2 : _ = w₁ := Eq.symm hR
  subst hR2
  clear hR
  go_simp
  try (unfold stored; go_simp)
  try go_ints
  refine hK _ _ () (dt_nil (listed_nil (by simp [go_sem, *])) (Nat.le_refl _)) ?_
  clear hK K
  try walk_nrm
  repeat (first | refine t_seq hT ?_ | refine t_block hT ?_ | refine t_skip hT ?_ | refine t_inBlock hT ?_ | refine t_rend hT ?_ | refine t_exit hT rfl ?_)
  refine t_region hT [0] rfl ?_
  subst hT'
  refine lt_of_ltn ?_
  clear hT
  have hT := clo_ltn (P := Try.prog) (Post := Post) (n := w.heap.size + 2)
  have e2 : ((w.alloc (.cells #[.int .i64 nn] 3)).alloc (.cells #[.func (.func fF) #[] cap] 30)).heap.size = w.heap.size + 2 := by simp only [alloc_size]
  have k2 : ∀ b, b < w.heap.size → ((w.alloc (.cells #[.int .i64 nn] 3)).alloc (.cells #[.func (.func fF) #[] cap] 30)).heap[b]? = w.heap[b]? := fun b hb => (alloc_get (by rw [alloc_size]; omega)).trans (alloc_get hb)
  have t2 : ((w.alloc (.cells #[.int .i64 nn] 3)).alloc (.cells #[.func (.func fF) #[] cap] 30)).heap[w.heap.size]? = some (.cells #[.int .i64 nn] 3) := (alloc_get (by rw [alloc_size]; omega)).trans Array.getElem?_push_size
  have x2 : ((w.alloc (.cells #[.int .i64 nn] 3)).alloc (.cells #[.func (.func fF) #[] cap] 30)).heap[w.heap.size + 1]? = some (.cells #[.func (.func fF) #[] cap] 30) := by
    rw [show w.heap.size + 1 = (w.alloc (.cells #[.int .i64 nn] 3)).heap.size from alloc_size.symm]
    exact Array.getElem?_push_size
  have q2 : Kept w ((w.alloc (.cells #[.int .i64 nn] 3)).alloc (.cells #[.func (.func fF) #[] cap] 30)) := ⟨rfl, rfl, rfl⟩
  rw [e2]
  generalize (w.alloc (.cells #[.int .i64 nn] 3)).alloc (.cells #[.func (.func fF) #[] cap] 30) = W2 at *
  generalize w.heap.size = N at *
  generalize LTn Try.prog Post (N + 2) = T at hT hc ⊢
  refine t_op hT rfl (by rfl) (by first | decide | assumption) (by first | rfl | (rw [hro]; rfl)) (fun w₁ hR K hK => ?_)
  have hR2 : _ = w₁ := Eq.symm hR
  subst hR2
  clear hR
  go_simp
  try (unfold stored; go_simp)
  try go_ints
  refine hK _ _ () (dtn_nil (listed_nil (by simp [go_sem, *]))) ?_
  clear hK K
  try walk_nrm
  have k3 : ∀ b, b < N + 2 → (W2.alloc (wgBlock 60 0 0)).heap[b]? = W2.heap[b]? := fun b hb => alloc_get (by omega)
  have g3 : WgAt wgL.tWg (N + 2) (W2.alloc (wgBlock 60 0 0)) 0 0 := by
    unfold WgAt
    rw [← e2]
    exact Array.getElem?_push_size
  have q3 : Kept w (W2.alloc (wgBlock 60 0 0)) := q2.trans ⟨rfl, rfl, rfl⟩
  have e3 : (W2.alloc (wgBlock 60 0 0)).heap.size = N + 3 := by rw [alloc_size, e2]
  change T () _ (W2.alloc (wgBlock 60 0 0))
  generalize W2.alloc (wgBlock 60 0 0) = W3 at *
  have t3 := (k3 N (by omega)).trans t2
  have x3 := (k3 (N + 1) (by omega)).trans x2
  have o3 : ∀ b, b < N → W3.heap[b]? = w.heap[b]? := fun b hb => (k3 b (by omega)).trans (k2 b hb)
  clear k2 t2 x2 e2 k3
  have hcl := cell_of_heap (k := 0) (v := .int .i64 nn) t3 rfl
  repeat (first | refine t_seq hT ?_ | refine t_block hT ?_ | refine t_skip hT ?_ | refine t_inBlock hT ?_ | refine t_rend hT ?_ | refine t_exit hT rfl ?_)
  refine t_region hT [0, 1, 2] rfl ?_
  refine t_op hT rfl (by rfl) (by first | decide | assumption) (by first | rfl | (rw [hro]; rfl)) (fun w₁ hR K hK => ?_)
  have hR2 : _ = w₁ := Eq.symm hR
  subst hR2
  clear hR
  go_simp
  try (unfold stored; go_simp)
  try go_ints
  refine hK _ _ () ((by unfold DTn; co_evs (exact evP_cell _ _ _ (by show N < N + 2; omega)))) ?_
  clear hK K
  try walk_nrm
  have hmk := run_mkL nn (by omega) W3
  have hev := fun es => evs_mkL nn (by omega) W3 es
  refine t_op hT rfl (by rfl) (by first | decide | assumption) (by first | rfl | (rw [hro]; rfl)) (fun w₁ hR K hK => ?_)
  have hR2 : _ = w₁ := Eq.symm hR
  subst hR2
  clear hR
  go_simp
  try (unfold stored; go_simp)
  try go_ints
  refine hK _ _ () (dtn_nil (listed_nil (by simp [go_sem, *]))) ?_
  clear hK K
  try walk_nrm
  have k4 : ∀ b, b < N + 3 → (W3.alloc (.cells (madeCells #[.chan none] nn) 62)).heap[b]? = W3.heap[b]? := fun b hb => alloc_get (by omega)
  have r4 : (W3.alloc (.cells (madeCells #[.chan none] nn) 62)).heap[N + 3]? = some (.cells (madeCells #[.chan none] nn) 62) := by
    rw [← e3]
    exact Array.getElem?_push_size
  have q4 : Kept w (W3.alloc (.cells (madeCells #[.chan none] nn) 62)) := q3.trans ⟨rfl, rfl, rfl⟩
  have e4 : (W3.alloc (.cells (madeCells #[.chan none] nn) 62)).heap.size = N + 4 := by rw [alloc_size, e3]
  clear hmk hev
  generalize W3.alloc (.cells (madeCells #[.chan none] nn) 62) = W4 at *
  refine t_op hT rfl (by rfl) (by first | decide | assumption) (by first | rfl | (rw [hro]; rfl)) (fun w₁ hR K hK => ?_)
  have hR2 : _ = w₁ := Eq.symm hR
  subst hR2
  clear hR
  go_simp
  try (unfold stored; go_simp)
  try go_ints
  refine hK _ _ () (dtn_nil (listed_nil (by simp [go_sem, *]))) ?_
  clear hK K
  try walk_nrm
  refine t_rend hT ?_
  refine t_seq hT ?_
  refine hc _ _ ⟨rfl, rfl, rfl, rfl, rfl, rfl⟩ (fun b hb => (k4 b (by omega)).trans (o3 b hb)) e4 q4 ((k4 N (by omega)).trans t3) ((k4 (N + 1) (by omega)).trans x3) ?_ r4
  unfold WgAt
  exact (k4 (N + 2) (by omega)).trans g3
end
end Go.Proofs.Ytkbfcaaihellfaa

/- What comes in: a slice as the frame of a law tells of it. -/
namespace Go.Proofs.Ytkbfcaaihellfaa
open Go.RowKit
set_option linter.unusedVariables false

def RowIn (k : IntKind) (w : World) (a : Option Addr) (len cap : Nat) (zs : List Int) : Prop :=
  (a = none ∧ len = 0 ∧ cap = 0 ∧ zs = []) ∨
  ∃ x, a = some x ∧ len ≤ cap ∧ cap ≤ maxLen ∧ zs.length = cap ∧ (∀ i, i < zs.length → w.cell? (x.add i) = some (.int k (zs.getD i 0))) ∧ ∀ n ∈ zs, (Lit.int k n).wf = true

theorem RowIn.read {w : World} {a : Option Addr} {len cap : Nat} {zs : List Int} (h : RowIn .i64 w a len cap zs) : ∃ xs : List Int, xs.length = len ∧ RdA w a xs ∧ ∀ n ∈ xs, (Lit.int .i64 n).wf = true := by
  rcases h with ⟨rfl, rfl, rfl, rfl⟩ | ⟨x, rfl, hl, hm, hz, hc, hw⟩
  · exact ⟨[], rfl, RdA.nil, by simp⟩
  · refine ⟨zs.take len, by simp; omega, fun k hk => ⟨x, rfl, ?_⟩, fun n hn => hw n (List.mem_of_mem_take hn)⟩
    rw [List.length_take] at hk
    rw [hc k (by omega)]
    have e : nth (zs.take len) k = zs.getD k 0 := by
      unfold nth
      rw [List.getElem?_take, if_pos (by omega), List.getD_eq_getElem?_getD]
    rw [e]
theorem RowIn.cap {k : IntKind} {w : World} {a : Option Addr} {len cap : Nat} {zs : List Int} (h : RowIn k w a len cap zs) : len ≤ maxLen := by
  rcases h with ⟨rfl, rfl, rfl, rfl⟩ | ⟨x, rfl, hl, hm, hz, hc, hw⟩
  · simp
  · omega

/-- a mark in a slice that is owned, whatever its length -/
theorem markIntS_any (B c : Nat) (A : Option Addr) (xs : List Int) (k0 : Int) (w : World) (hown : Own B w (.slice A xs.length c) xs) (hn : xs.length ≤ 1048577) (h0 : 0 ≤ k0) (h1 : k0 ≤ 1000000000) :
    Calls Try.prog 14 #[.slice A xs.length c, .int .i64 k0] w fun e w' => e = .returned (.int .i64 (k0 + xs.length)) ∧
      Own B w' (.slice A xs.length c) (upFrom k0 xs.length) ∧ w.grownBy w' (Value.slice A xs.length c).ownBlock ∧ w'.heap.size = w.heap.size := by
  by_cases hx : 0 < xs.length
  · obtain ⟨g, c', e, _, _⟩ := hown.pos hx
    injection e with e1 e2 e3
    subst e1
    exact markIntS_c B g c xs k0 w hown hn h0 h1
  · have hx0 : xs = [] := List.eq_nil_of_length_eq_zero (by omega)
    subst hx0
    refine (markIntS_nil A c k0 w).mono ?_
    rintro e w' ⟨rfl, rfl⟩
    exact ⟨by simp, hown, World.grownBy.refl _ _, rfl⟩

/-- below a block that is the call's own all stays, when it is marked -/
theorem below_mark {B : Nat} {w0 w w' : World} {v : Value} {xs : List Int} (hb : Below w0.heap.size w0 w) (hown : Own B w v xs) (hB : w0.heap.size ≤ B) (hg : w.grownBy w' v.ownBlock) : Below w0.heap.size w0 w' :=
  hb.grown hg hb.size (fun k hk => Nat.le_trans hB (hown.lt k hk).1)
/-- what another slice holds stays, when one is marked -/
theorem Own.apart {B B' : Nat} {w w' : World} {v v' : Value} {xs ys : List Int} (h : Own B w v xs) (h' : Own B' w v' ys) (hB : ∀ g, v.ownBlock = some g → ∀ g', v'.ownBlock = some g' → g ≠ g') (hg : w.grownBy w' v'.ownBlock) : Own B w' v xs := by
  rcases hv : v.ownBlock with _ | g
  · exact h.kept hg (.inl hv)
  · refine h.kept hg (.inr ?_)
    rw [hv]
    intro e
    exact hB g hv g e.symm rfl
end Go.Proofs.Ytkbfcaaihellfaa

/- The reader of codes: l20Open, pick, odd. -/
namespace Go.Proofs.Ytkbfcaaihellfaa
open Go.RowKit
set_option linter.unusedVariables false

/-- a slice of bytes at A -/
def RdU (w : World) (B : Nat) (A : Option Addr) (n : Nat) : Prop := ∀ k, k < n → ∃ ad x, A = some ad ∧ ad.block < B ∧ w.cell? (ad.add k) = some (.int .u8 x) ∧ 0 ≤ x ∧ x ≤ 255
/-- block r is a reader that has been asked at most m times -/
def Rdr (w : World) (r m : Nat) : Prop := ∃ A n c p, w.heap[r]? = some (.cells #[.slice A n c, .int .i64 (p : Nat)] 69 (0, 0)) ∧ p ≤ m ∧ n ≤ 2000 ∧ RdU w r A n

def PickR (w : World) (r m : Nat) (n : Int) (e : Ending) (w' : World) : Prop := ∃ z : Int, e = .returned (.int .i64 z) ∧ 0 ≤ z ∧ z < n ∧ Rdr w' r (m + 1) ∧ w.grownBy w' (some r) ∧ w'.heap.size = w.heap.size

theorem rdr_set {w : World} {r p m : Nat} {A : Option Addr} {n c : Nat} (hb : w.heap[r]? = some (.cells #[.slice A n c, .int .i64 (p : Nat)] 69 (0, 0))) (hp : p ≤ m) (hn : n ≤ 2000) (hu : RdU w r A n) :
    Rdr (w.setCell ⟨r, 1, none⟩ (.int .i64 ((p : Int) + 1))) r (m + 1) ∧ w.grownBy (w.setCell ⟨r, 1, none⟩ (.int .i64 ((p : Int) + 1))) (some r) ∧ (w.setCell ⟨r, 1, none⟩ (.int .i64 ((p : Int) + 1))).heap.size = w.heap.size := by
  refine ⟨⟨A, n, c, p + 1, ?_, by omega, hn, fun k hk => ?_⟩, grown_store (World.grownBy.refl _ _) 1 _, by simp [World.setCell]⟩
  · have := heap_setCell_same w r 1 #[.slice A n c, .int .i64 (p : Nat)] 69 (.int .i64 ((p : Int) + 1)) hb
    rw [this]
    rfl
  · obtain ⟨ad, x, e, hlt, hc, h0, h1⟩ := hu k hk
    refine ⟨ad, x, e, hlt, ?_, h0, h1⟩
    rw [World.cell?_setCell_other w _ _ _ (fun e => by have := congrArg Addr.block e; rw [block_of_add] at this; simp at this; omega)]
    exact hc
theorem rdr_drew {w : World} {r m : Nat} (h : Rdr w r m) (q : Nat) : Rdr (w.drewN q) r m := h
theorem grown_drewN {a w : World} {row : Option Nat} (h : a.grownBy w row) (n : Nat) : a.grownBy (w.drewN n) row := ⟨h.os, h.tape, h.output, h.size, h.block⟩

theorem ofInt_i64 (a : Nat) (ha : a < 9223372036854775808) : (BitVec.ofInt 64 (a : Int)).toNat = a := by
  rw [BitVec.ofInt_natCast, BitVec.toNat_ofNat]; exact Nat.mod_eq_of_lt (by omega)
theorem i64_xor_nat (a b : Nat) (ha : a < 9223372036854775808) (hb : b < 9223372036854775808) : bits .xor .i64 (a : Int) (b : Int) = ((a ^^^ b : Nat) : Int) := by
  have hx : a ^^^ b < 2 ^ 63 := Nat.xor_lt_two_pow (by omega) (by omega)
  show IntKind.i64.wrap ((BitVec.ofInt 64 (a : Int) ^^^ BitVec.ofInt 64 (b : Int)).toNat : Int) = _
  rw [BitVec.toNat_xor, ofInt_i64 a ha, ofInt_i64 b hb, IntKind.wrap_i64]
  omega
theorem xor_bd (N : Nat) (h : N ≤ 1000000000) : 0 ≤ bits BinOp.xor IntKind.i64 (N : Int) ((N : Int) / 64) := by
  rw [show ((N : Int) / 64) = ((N / 64 : Nat) : Int) by omega, i64_xor_nat _ _ (by omega) (by omega)]
  exact Int.natCast_nonneg _

set_option maxHeartbeats 1000000 in
theorem pick_c (r m : Nat) (n : Int) (w : World) (hr : Rdr w r m) (hm : m ≤ 1000000) (h1 : 1 ≤ n) (h2 : n ≤ 1000000) :
    Calls Try.prog 49 #[.pointer (some ⟨r, 0, none⟩), .int .i64 n] w (PickR w r m n) := by
  obtain ⟨A, L, c, p, hb, hp, hL, hu⟩ := hr
  have hc0 : w.cell? ⟨r, 0, none⟩ = some (.slice A L c) := by rw [cell_of_row w r 0 _ _ _ hb]; rfl
  have hc1 : w.cell? ⟨r, 1, none⟩ = some (.int .i64 p) := by rw [cell_of_row w r 1 _ _ _ hb]; rfl
  have hf1 : w.frozen? ⟨r, 1, none⟩ = false := frozen_of_row w r 1 _ _ hb
  have HS := hid (rdr_set hb hp hL hu)
  by_cases h0 : L = 0
  · have hl0 : ((L : Int) == 0) = true := by simp [h0]
    clear hb hu h0
    go_enter Try.func49, Try.ntmps49
    go_wp2_with fail
    go_ret
    exact ⟨0, rfl, by omega, by omega, HS.out⟩
  · have hl0 : ((L : Int) == 0) = false := by simp [h0]
    by_cases hk : p < L
    · obtain ⟨ad, x, rfl, hlt, hx, hx0, hx1⟩ := hu p hk
      have hx' : (w.setCell ⟨r, 1, none⟩ (.int .i64 ((p : Int) + 1))).cell? (ad.add p) = some (.int .u8 x) := by
        rw [World.cell?_setCell_other w _ _ _ (fun e => by have := congrArg Addr.block e; rw [block_of_add] at this; simp at this; omega)]
        exact hx
      clear hb hu h0 hx
      go_enter Try.func49, Try.ntmps49
      go_wp2_with fail
      go_ret
      exact ⟨x % n, rfl, Int.emod_nonneg _ (by omega), Int.emod_lt_of_pos _ (by omega), HS.out⟩
    · have hl : 0 < L := by omega
      obtain ⟨ad, x, e1, hlt, hx, hx0, hx1⟩ := hu (p % L) (Nat.mod_lt _ hl)
      obtain ⟨ad', y, e2, hlt', hy, hy0, hy1⟩ := hu ((p * 7 + 3) % L) (Nat.mod_lt _ hl)
      subst e1
      injection e2 with e2
      subst e2
      have hx' : (w.setCell ⟨r, 1, none⟩ (.int .i64 ((p : Int) + 1))).cell? (ad.add (p % L)) = some (.int .u8 x) := by
        rw [World.cell?_setCell_other w _ _ _ (fun e => by have := congrArg Addr.block e; rw [block_of_add] at this; simp at this; omega)]
        exact hx
      have hy' : (w.setCell ⟨r, 1, none⟩ (.int .i64 ((p : Int) + 1))).cell? (ad.add ((p * 7 + 3) % L)) = some (.int .u8 y) := by
        rw [World.cell?_setCell_other w _ _ _ (fun e => by have := congrArg Addr.block e; rw [block_of_add] at this; simp at this; omega)]
        exact hy
      have hkk : L ≤ p := by omega
      have a1 : 0 ≤ (p : Int) % (L : Int) := Int.emod_nonneg _ (by omega)
      have a2 : (p : Int) % (L : Int) < (L : Int) := Int.emod_lt_of_pos _ (by omega)
      have a3 : 0 ≤ ((p : Int) * 7 + 3) % (L : Int) := Int.emod_nonneg _ (by omega)
      have a4 : ((p : Int) * 7 + 3) % (L : Int) < (L : Int) := Int.emod_lt_of_pos _ (by omega)
      have d0 : 0 ≤ (p : Int) / (L : Int) := Int.ediv_nonneg (by omega) (by omega)
      have d1 : (p : Int) / (L : Int) ≤ p := Int.ediv_le_self _ (by omega)
      have q1 : IntKind.i64.wrap ((p : Int) * 7) = p * 7 := IntWalk.i64_in _ (by omega)
      have q2 : IntKind.i64.wrap ((p : Int) * 7 + 3) = p * 7 + 3 := IntWalk.i64_in _ (by omega)
      have q3 : IntKind.i64.wrap (x * 131) = x * 131 := IntWalk.i64_in _ (by omega)
      have q4 : IntKind.i64.wrap (y * 1117) = y * 1117 := IntWalk.i64_in _ (by omega)
      have q5 : IntKind.i64.wrap (x * 131 + y * 1117) = x * 131 + y * 1117 := IntWalk.i64_in _ (by omega)
      have q6 : IntKind.i64.wrap ((p : Int) * 29) = p * 29 := IntWalk.i64_in _ (by omega)
      have q7 : IntKind.i64.wrap (x * 131 + y * 1117 + (p : Int) * 29) = x * 131 + y * 1117 + p * 29 := IntWalk.i64_in _ (by omega)
      have q8 : IntKind.i64.wrap ((p : Int) / (L : Int)) = (p : Int) / (L : Int) := IntWalk.i64_in _ (by omega)
      have q9 : IntKind.i64.wrap ((p : Int) / (L : Int) * 53) = (p : Int) / (L : Int) * 53 := IntWalk.i64_in _ (by omega)
      have q10 : IntKind.i64.wrap (x * 131 + y * 1117 + (p : Int) * 29 + (p : Int) / (L : Int) * 53) = x * 131 + y * 1117 + p * 29 + (p : Int) / (L : Int) * 53 := IntWalk.i64_in _ (by omega)
      have q11 : IntKind.i64.wrap x = x := IntWalk.i64_in _ (by omega)
      have q12 : IntKind.i64.wrap y = y := IntWalk.i64_in _ (by omega)
      clear hb hu h0 hx hy hk
      go_enter Try.func49, Try.ntmps49
      go_wp2_with fail
      go_quiet (fail)
      clear q1 q2 q3 q4 q5 q6 q7 q8 q9 q11 q12 a1 a2 a3 a4 hx' hy'
      have s0 : 0 ≤ x * 131 + y * 1117 + (p : Int) * 29 + (p : Int) / (L : Int) * 53 := by omega
      have s1 : x * 131 + y * 1117 + (p : Int) * 29 + (p : Int) / (L : Int) * 53 ≤ 1000000000 := by omega
      clear q10
      generalize x * 131 + y * 1117 + (p : Int) * 29 + (p : Int) / (L : Int) * 53 = S at *
      obtain ⟨N, rfl⟩ := Int.eq_ofNat_of_zero_le s0
      have X := hid (xor_bd N (by omega))
      go_wp2_with fail
      go_ret
      exact ⟨_, rfl, Int.tmod_nonneg _ X.out, Int.tmod_lt_of_pos _ (by omega), rdr_drew HS.out.1 _, grown_drewN HS.out.2.1 _, HS.out.2.2⟩

/-- 'once in n': some answer; the reader goes on by at most one -/
def OddR (w : World) (r m : Nat) (e : Ending) (w' : World) : Prop := ∃ b : Bool, e = .returned (.bool b) ∧ Rdr w' r (m + 1) ∧ w.grownBy w' (some r) ∧ w'.heap.size = w.heap.size
theorem Rdr.more {w : World} {r m m' : Nat} (h : Rdr w r m) (hm : m ≤ m') : Rdr w r m' := by
  obtain ⟨A, n, c, p, hb, hp, r⟩ := h
  exact ⟨A, n, c, p, hb, by omega, r⟩

theorem odd_c (r m : Nat) (n : Int) (w : World) (hr : Rdr w r m) (hm : m ≤ 1000000) (h1 : 0 ≤ n) (h2 : n ≤ 1000000) :
    Calls Try.prog 63 #[.pointer (some ⟨r, 0, none⟩), .int .i64 n] w (OddR w r m) := by
  by_cases h0 : 0 < n
  · have hp := pick_c r m n w hr hm (by omega) h2
    go_enter Try.func63, Try.ntmps63
    go_wp2_with fail
    refine hp.mono ?_
    rintro e w1 ⟨z, rfl, hz0, hz1, hr1, hg, hsz⟩
    have HZ := hid hsz
    clear hsz
    go_wp2_with fail
    all_goals go_ret
    all_goals exact ⟨_, rfl, hr1, hg, HZ.out⟩
  · obtain rfl : n = 0 := by omega
    clear h0
    go_enter Try.func63, Try.ntmps63
    go_wp2_with fail
    go_ret
    exact ⟨_, rfl, hr.more (by omega), World.grownBy.refl _ _, rfl⟩

/-- a new reader -/
def OpenR (w : World) (e : Ending) (w' : World) : Prop := ∃ r, e = .returned (.pointer (some ⟨r, 0, none⟩)) ∧ Rdr w' r 0 ∧ Below w.heap.size w w' ∧ w.heap.size ≤ r ∧ r < w'.heap.size

theorem RowIn.bytes {w : World} {a : Option Addr} {len cap : Nat} {zs : List Int} (h : RowIn .u8 w a len cap zs) (B : Nat) (hB : w.heap.size ≤ B) (n : Nat) (hn : n ≤ len) : RdU w B a n := by
  rcases h with ⟨rfl, rfl, rfl, rfl⟩ | ⟨x, rfl, hl, hm, hz, hc, hw⟩
  · intro k hk; omega
  · intro k hk
    have hc' := hc k (by omega)
    have := hw _ (List.getElem_mem (l := zs) (show k < zs.length by omega))
    refine ⟨x, zs.getD k 0, rfl, ?_, hc', ?_⟩
    · have := lt_of_cell hc'
      rw [block_of_add] at this
      omega
    · rw [List.getD_eq_getElem?_getD, List.getElem?_eq_getElem (by omega)]
      simpa [Lit.wf, IntKind.min, IntKind.max, IntKind.signed, IntKind.bits] using this

theorem open_end (w : World) (a : Option Addr) (n cap : Nat) (hu : RdU w w.heap.size a n) (hn : n ≤ 2000) :
    Rdr (w.alloc (.cells #[.slice a n cap, .int .i64 0] 69)) w.heap.size 0 ∧ Below w.heap.size w (w.alloc (.cells #[.slice a n cap, .int .i64 0] 69)) := by
  refine ⟨⟨a, n, cap, 0, heap_alloc_new _ _, Nat.le_refl _, hn, fun k hk => ?_⟩, (Below.refl _ _).alloc (Nat.le_refl _) _⟩
  obtain ⟨ad, x, e, hlt, hc, hx⟩ := hu k hk
  exact ⟨ad, x, e, hlt, (World.cell?_alloc_lt w _ _ (by rw [block_of_add]; exact hlt)).trans hc, hx⟩

theorem open_c (a : Option Addr) (len cap : Nat) (zs : List Int) (w : World) (h : RowIn .u8 w a len cap zs) (hn : len ≤ 1048576) :
    Calls Try.prog 48 #[.slice a len cap] w (OpenR w) := by
  by_cases hl : 2000 < len
  · have hu := h.bytes w.heap.size (Nat.le_refl _) 2000 (by omega)
    have hcap : 2000 ≤ cap := by
      rcases h with ⟨rfl, rfl, rfl, rfl⟩ | ⟨x, rfl, hl', _⟩ <;> omega
    have HE := hid (open_end w a 2000 cap hu (Nat.le_refl _))
    clear h hu
    go_enter Try.func48, Try.ntmps48
    go_wp2_with fail
    go_ret
    exact ⟨w.heap.size, rfl, HE.out.1, HE.out.2, Nat.le_refl _, by simp⟩
  · have hu := h.bytes w.heap.size (Nat.le_refl _) len (by omega)
    have HE := hid (open_end w a len cap hu (by omega))
    clear h hu
    go_enter Try.func48, Try.ntmps48
    go_wp2_with fail
    go_ret
    exact ⟨w.heap.size, rfl, HE.out.1, HE.out.2, Nat.le_refl _, by simp⟩

end Go.Proofs.Ytkbfcaaihellfaa

/- The draws of the counts. -/
namespace Go.Proofs.Ytkbfcaaihellfaa
open Go.RowKit
set_option linter.unusedVariables false

theorem below_pick {B r : Nat} {w w1 w2 : World} (h : Below B w w1) (hB : B ≤ r) (hz : B ≤ w1.heap.size) (hg : w1.grownBy w2 (some r)) : Below B w w2 :=
  h.grown hg hz (fun k hk => by injection hk with hk; omega)

/-- one number in a range -/
def NumR (w : World) (lo hi : Int) (e : Ending) (w' : World) : Prop := ∃ z : Int, e = .returned (.int .i64 z) ∧ lo ≤ z ∧ z ≤ hi ∧ Below w.heap.size w w'
/-- two numbers in ranges -/
def NumR2 (w : World) (lo hi lo2 hi2 : Int) (e : Ending) (w' : World) : Prop := ∃ z y : Int, e = .returned (.tuple #[.int .i64 z, .int .i64 y]) ∧ lo ≤ z ∧ z ≤ hi ∧ lo2 ≤ y ∧ y ≤ hi2 ∧ Below w.heap.size w w'


end Go.Proofs.Ytkbfcaaihellfaa

/- The reader kept over steps; codes that are drawn. -/
namespace Go.Proofs.Ytkbfcaaihellfaa
open Go.RowKit
set_option linter.unusedVariables false

theorem Rdr.kept {w w' : World} {r m : Nat} (h : Rdr w r m) (hk : ∀ k, k ≤ r → w'.heap[k]? = w.heap[k]?) : Rdr w' r m := by
  obtain ⟨A, n, c, p, hb, hp, hn, hu⟩ := h
  refine ⟨A, n, c, p, (hk r (Nat.le_refl _)).trans hb, hp, hn, fun k hkn => ?_⟩
  obtain ⟨ad, x, e, hlt, hc, hx⟩ := hu k hkn
  exact ⟨ad, x, e, hlt, (World.cell?_of_block (hk _ (by rw [block_of_add]; omega))).trans hc, hx⟩
theorem Rdr.below {B : Nat} {w w' : World} {r m : Nat} (h : Rdr w r m) (hb : Below B w w') (hr : r < B) : Rdr w' r m := h.kept fun k hk => hb.block k (by omega)
theorem Rdr.lt {w : World} {r m : Nat} (h : Rdr w r m) : r < w.heap.size := by
  obtain ⟨A, n, c, p, hb, _⟩ := h
  exact lt_of_block hb
theorem Own.pick {B r : Nat} {w w' : World} {v : Value} {xs : List Int} (h : Own B w v xs) (hr : r < B) (hg : w.grownBy w' (some r)) : Own B w' v xs := by
  rcases hv : v.ownBlock with _ | g
  · exact h.kept hg (.inl hv)
  · refine h.kept hg (.inr ?_)
    rw [hv]
    intro e
    injection e with e
    have := (h.lt g hv).1
    omega
/-- only the reader at r has turned of what was there -/
theorem grown_step {w w1 w2 : World} {r B : Nat} (h : w.grownBy w1 (some r)) (hb : Below B w1 w2) (hB : w.heap.size ≤ B) : w.grownBy w2 (some r) :=
  ⟨hb.os.trans h.os, hb.tape.trans h.tape, hb.output.trans h.output, Nat.le_trans h.size hb.size, fun k hk hne => (hb.block k (by omega)).trans (h.block k hk hne)⟩
theorem grown_pick {w w1 w2 : World} {r : Nat} (h : w.grownBy w1 (some r)) (hg : w1.grownBy w2 (some r)) : w.grownBy w2 (some r) := h.trans hg

/-- a new slice of at most n numbers; the reader goes on by at most d -/
def DrawnR (w : World) (r m d n : Nat) (e : Ending) (w' : World) : Prop :=
  ∃ (xs : List Int) (A : Option Addr) (c : Nat), xs.length ≤ n ∧ e = .returned (.slice A xs.length c) ∧ Own w.heap.size w' (.slice A xs.length c) xs ∧ Rdr w' r (m + d) ∧ w.grownBy w' (some r)
theorem drawn_app {w w' : World} {r m d n : Nat} {xs : List Int} {z : Int} {A : Option Addr} {c : Nat} (hx : xs.length + 1 ≤ n) (ho : Own w.heap.size w' (.slice A (xs.length + 1) c) (xs ++ [z])) (hr : Rdr w' r (m + d)) (hg : w.grownBy w' (some r)) :
    DrawnR w r m d n (.returned (.slice A (xs.length + 1) c)) w' := by
  have e : (xs ++ [z]).length = xs.length + 1 := by simp
  exact ⟨xs ++ [z], A, c, by omega, by rw [e], by rw [e]; exact ho, hr, hg⟩
/-- a new slice of at most n numbers -/
def DrawR (w : World) (n : Nat) (e : Ending) (w' : World) : Prop :=
  ∃ (xs : List Int) (A : Option Addr) (c : Nat), xs.length ≤ n ∧ e = .returned (.slice A xs.length c) ∧ Own w.heap.size w' (.slice A xs.length c) xs ∧ Below w.heap.size w w'

theorem cell_two (w : World) (x y : Int) : (w.alloc (.cells #[.int .i64 x, .int .i64 y] 3)).cell? ⟨w.heap.size, 0, none⟩ = some (.int .i64 x) ∧ (w.alloc (.cells #[.int .i64 x, .int .i64 y] 3)).cell? ⟨w.heap.size, 1, none⟩ = some (.int .i64 y) :=
  ⟨by rw [World.cell?_alloc_at _ _ _ _ rfl]; rfl, by rw [World.cell?_alloc_at _ _ _ _ rfl]; rfl⟩

end Go.Proofs.Ytkbfcaaihellfaa

/- The draws of maps. -/
namespace Go.Proofs.Ytkbfcaaihellfaa
open Go.RowKit
set_option linter.unusedVariables false

theorem drawn_own {w w' : World} {r m d n : Nat} {xs : List Int} {v : Value} (hx : xs.length ≤ n) (ho : Own w.heap.size w' v xs) (hr : Rdr w' r (m + d)) (hg : w.grownBy w' (some r)) : DrawnR w r m d n (.returned v) w' := by
  obtain ⟨A, c, rfl, _⟩ := ho.form
  exact ⟨xs, A, c, hx, rfl, ho, hr, hg⟩

set_option maxHeartbeats 4000000 in
theorem l20Map_c (r m : Nat) (most n : Int) (w : World) (hr : Rdr w r m) (hm : m ≤ 1000) (hq1 : 1 ≤ most) (hq7 : most ≤ 7) (h1 : 0 ≤ n) (h2 : n ≤ 1000) :
    Calls Try.prog 47 #[.pointer (some ⟨r, 0, none⟩), .int .i64 most, .int .i64 n] w (DrawnR w r m 30 8) := by
  have hrl := hr.lt
  have hp := pick_c r m most w hr (by omega) (by omega) (by omega)
  go_enter Try.func47, Try.ntmps47
  go_wp2_with fail
  refine hp.mono ?_
  rintro e w1 ⟨L, rfl, hL0, hL7, hr1, hg1, hz1⟩
  have hsz1 : w.heap.size ≤ w1.heap.size := hg1.size
  have o1 : Own w.heap.size (w1.alloc (.cells #[] 3)) _ [] := (Own.new_ w1 [] #[] rfl (by decide)).mono hsz1
  have b1 : Below w.heap.size w1 (w1.alloc (.cells #[] 3)) := (Below.refl _ _).alloc hsz1 _
  have hr2 := hr1.below b1 hrl
  have g2 := grown_step hg1 b1 (Nat.le_refl _)
  obtain ⟨N, rfl⟩ := Int.eq_ofNat_of_zero_le hL0
  have hN : N ≤ 6 := by omega
  clear hz1 b1 hg1 hr1 hp hr hL0 hL7
  go_wp2_with fail
  go_loopw [8, 9] (fun v i wr => ∃ (k : Nat) (xs : List Int), k ≤ N + 1 ∧ xs.length = k ∧ i = .int .i64 k ∧ Own w.heap.size wr v xs ∧ Rdr wr r (m + 1 + k) ∧ w.grownBy wr (some r)) (fun _ i _ => N + 1 - (intOf i).toNat)
  case atStart => exact ⟨0, [], Nat.zero_le _, rfl, rfl, o1, hr2, g2⟩
  case round =>
    clear o1 hr2 g2
    obtain ⟨k, xs, hk, hxl, rfl, ho, hr1, g1⟩ := hrel
    have HXL := hid hxl
    have hx6 : xs.length ≤ 7 := by omega
    clear hxl
    by_cases hlt : k < N + 1
    · go_wp2_with fail
      refine (pick_c r (m + 1 + k) (1 + (N : Int)) wr hr1 (by omega) (by omega) (by omega)).mono ?_
      rintro e w2 ⟨z, rfl, hz0, hz1, hr2, hg2, hz2⟩
      have g2 := grown_pick g1 hg2
      have o2 := ho.pick hrl hg2
      have hsz : w.heap.size ≤ w2.heap.size := g2.size
      clear hz2 hg2 g1 ho hr1
      go_wp2_with (at_builtin; refine wpList_app1 _ rfl _ _ rfl w.heap.size _ xs rfl (o2.alloc _) w2.heap.size z rfl (cell_one1 _ _ _) (by omega) (by simp; omega) ?_; intro A3 c3 w3 o3 b3)
      have b3' : Below w.heap.size w2 w3 := ((Below.refl _ w2).alloc hsz _).trans b3
      have hr3 := hr2.below b3' hrl
      have g3 := grown_step g2 b3' (Nat.le_refl _)
      clear b3 b3' hr2 g2 o2
      go_wp2_with fail
      go_roundw
      case rel => exact ⟨k + 1, xs ++ [z], by omega, by rw [List.length_append, HXL.out]; rfl, by go_num, o3, hr3, g3⟩
      case measure => simp [intOf]; omega
    · obtain rfl : k = N + 1 := by omega
      have hsz : w.heap.size ≤ wr.heap.size := g1.size
      obtain ⟨gO, c, rfl, hgO, hgO2⟩ := ho.pos (by rw [HXL.out]; omega)
      rw [HXL.out] at ho ⊢
      go_wp2_with fail
      refine (pick_c r (m + 1 + (N + 1)) 3 wr hr1 (by omega) (by omega) (by omega)).mono ?_
      rintro e w2 ⟨z, rfl, hz0, hz1, hr2, hg2, hz2⟩
      have g2 := grown_pick g1 hg2
      have o2 := ho.pick hrl hg2
      have hgO3 : gO < w2.heap.size := by omega
      clear hz2 hg2 g1 ho hr1 hgO2 hsz
      by_cases hz : z = 0
      · subst hz
        go_wp2_with fail
        go_loopw [10] (fun i wr => ∃ (k : Nat) (ys : List Int), k ≤ N + 1 ∧ Hid (ys.length = N + 1) ∧ i = .int .i64 k ∧ Own w.heap.size wr (.slice (some ⟨gO, 0, none⟩) (N + 1) c) ys ∧ Rdr wr r (m + 1 + (N + 1) + 1 + k) ∧ w.grownBy wr (some r) ∧ Hid (gO < wr.heap.size)) (fun i _ => N + 1 - (intOf i).toNat)
        case atStart => exact ⟨0, xs, Nat.zero_le _, HXL, rfl, o2, hr2, g2, hgO3⟩
        case round =>
          clear o2 hr2 g2
          obtain ⟨k, ys, hk, HYL, rfl, ho, hr1, g1, hgo⟩ := hrel
          by_cases hlt : k < N + 1
          · go_wp2_with fail
            refine (pick_c r (m + 1 + (N + 1) + 1 + k) ((k : Int) + 1) wr hr1 (by omega) (by omega) (by omega)).mono ?_
            rintro e w3 ⟨z, rfl, hz0, hz1, hr3, hg3, hz3⟩
            have g3 := grown_pick g1 hg3
            have o3 := ho.pick hrl hg3
            have hgo3 := hid (show gO < w3.heap.size by have := hgo.out; omega)
            obtain ⟨Z, rfl⟩ := Int.eq_ofNat_of_zero_le hz0
            have hZN : Z < N + 1 := by omega
            have hcZ := o3.cell (k := Z) (by rw [HYL.out]; exact hZN)
            have hck := o3.cell (k := k) (by rw [HYL.out]; exact hlt)
            have hfk := o3.frozen k
            have hs1 := o3.store k (nth ys Z)
            have bs1 := (Below.refl w.heap.size w3).setCell (p := ⟨gO, k, none⟩) hgO (.int .i64 (nth ys Z))
            have hcZ2 := hs1.cell (k := Z) (by rw [List.length_set, HYL.out]; exact hZN)
            have hfZ2 := hs1.frozen Z
            have hs2 := hs1.store Z (k : Int)
            have bs2 := bs1.setCell (p := ⟨gO, Z, none⟩) hgO (.int .i64 (k : Int))
            have HR := hid (And.intro hs2 (And.intro (hr3.below bs2 hrl) (grown_step g3 bs2 (Nat.le_refl _))))
            have HL2 := hid (show ((ys.set k (nth ys Z)).set Z (k : Int)).length = N + 1 by rw [List.length_set, List.length_set, HYL.out])
            clear hz3 hg3 g1 ho hr1 g3 o3 hs1 hs2 bs1 bs2 hr3
            generalize nth (ys.set k (nth ys Z)) Z = Q at *
            generalize nth ys Z = P at *
            go_wp2_with fail
            go_roundw
            case rel => exact ⟨k + 1, _, by omega, HL2, by go_num, HR.out.1, HR.out.2.1, HR.out.2.2, hid (by simpa [World.setCell] using hgo3.out)⟩
            case measure => simp [intOf]; omega
          · obtain rfl : k = N + 1 := by omega
            have hgo' := hgo.out
            go_wp2_with fail
            refine (odd_c r (m + 1 + (N + 1) + 1 + (N + 1)) n wr hr1 (by omega) (by omega) (by omega)).mono ?_
            rintro e w5 ⟨b, rfl, hr5, hg5, hz5⟩
            have g5 := grown_pick g1 hg5
            have o5 := ho.pick hrl hg5
            have hsz5 : w.heap.size ≤ w5.heap.size := g5.size
            have hgO5 : gO < w5.heap.size := by omega
            clear hz5 hg5 g1 ho hr1
            cases b
            · go_wp2_with fail
              go_ret
              exact drawn_own (by have := HYL.out; omega) o5 (hr5.more (by omega)) g5
            · go_wp2_with fail
              refine (pick_c r (m + 1 + (N + 1) + 1 + (N + 1) + 1) 3 w5 hr5 (by omega) (by omega) (by omega)).mono ?_
              rintro e w6 ⟨y, rfl, hy0, hy1, hr6, hg6, hz6⟩
              have g6 := grown_pick g5 hg6
              have o6 := o5.pick hrl hg6
              have hsz6 : w.heap.size ≤ w6.heap.size := g6.size
              have hgO6 : gO < w6.heap.size := by omega
              clear hz6 hg6 g5 o5 hr5
              by_cases hy : y = 0
              · subst hy
                have o7 := (Own.new_ w6 [] #[] rfl (by decide)).mono hsz6
                have b7 : Below w.heap.size w6 (w6.alloc (.cells #[] 3)) := (Below.refl _ _).alloc hsz6 _
                have hr7 := hr6.below b7 hrl
                have g7 := grown_step g6 b7 (Nat.le_refl _)
                clear b7 o6 g6 hr6
                go_wp2_with fail
                go_ret
                exact drawn_own (by simp) o7 (hr7.more (by omega)) g7
              · by_cases hy2 : y = 1
                · subst hy2
                  clear hy
                  go_wp2_with fail
                  have b7 : Below w.heap.size w6 (w6.alloc (.cells #[.int .i64 (-1), .int .i64 (1 + (N : Int))] 3)) := (Below.refl _ _).alloc hsz6 _
                  have hc7 := cell_two w6 (-1) (1 + (N : Int))
                  refine (pick_c r (m + 1 + (N + 1) + 1 + (N + 1) + 1 + 1) 2 _ (hr6.below b7 hrl) (by omega) (by omega) (by omega)).mono ?_
                  rintro e w8 ⟨u, rfl, hu0, hu1, hr8, hg8, hz8⟩
                  have g8 := grown_pick (grown_step g6 b7 (Nat.le_refl _)) hg8
                  have o8 := (o6.alloc (.cells #[.int .i64 (-1), .int .i64 (1 + (N : Int))] 3)).pick hrl hg8
                  have k1 := hg8.cell hc7.1 (by simp; omega)
                  have k2 := hg8.cell hc7.2 (by simp; omega)
                  have hc9 := o8.cell (k := 0) (by have := HYL.out; omega)
                  have hf9 := o8.frozen 0
                  have hs1 := o8.store 0 (-1)
                  have hs2 := o8.store 0 (1 + (N : Int))
                  have bs1 := (Below.refl w.heap.size w8).setCell (p := ⟨gO, 0, none⟩) hgO (.int .i64 (-1))
                  have bs2 := (Below.refl w.heap.size w8).setCell (p := ⟨gO, 0, none⟩) hgO (.int .i64 (1 + (N : Int)))
                  have HR := hid (And.intro hs1 (And.intro hs2 (And.intro (hr8.below bs1 hrl) (And.intro (hr8.below bs2 hrl) (And.intro (grown_step g8 bs1 (Nat.le_refl _)) (grown_step g8 bs2 (Nat.le_refl _)))))))
                  clear hz8 hg8 b7 hc7 o6 g6 hr6 o8 hs1 hs2 bs1 bs2 hr8 g8
                  have hu : u = 0 ∨ u = 1 := by omega
                  rcases hu with rfl | rfl
                  · go_wp2_with fail
                    go_ret
                    exact drawn_own (by rw [List.length_set]; have := HYL.out; omega) HR.out.1 (HR.out.2.2.1.more (by omega)) HR.out.2.2.2.2.1
                  · go_wp2_with fail
                    go_ret
                    exact drawn_own (by rw [List.length_set]; have := HYL.out; omega) HR.out.2.1 (HR.out.2.2.2.1.more (by omega)) HR.out.2.2.2.2.2
                · have q1 : (y == 0) = false := by simpa using hy
                  have q2 : (y == 1) = false := by simpa using hy2
                  clear hy hy2 o6
                  go_wp2_with (at_make; refine wpList_mk _ rfl _ _ rfl _ 8 rfl rfl rfl (by omega) ?_; intro w7 o7 b7)
                  have g7 := grown_step g6 b7 hsz6
                  have hr7 := hr6.below b7 (by omega)
                  have o7' := o7.mono hsz6
                  clear b7 o7
                  go_wp2_with fail
                  go_ret
                  exact drawn_own (by simp) o7' (hr7.more (by omega)) g7
      · have hzb : (z == 0) = false := by simpa using hz
        clear hz
        go_wp2_with fail
        refine (odd_c r (m + 1 + (N + 1) + 1) n w2 hr2 (by omega) (by omega) (by omega)).mono ?_
        rintro e w5 ⟨b, rfl, hr5, hg5, hz5⟩
        have g5 := grown_pick g2 hg5
        have o5 := o2.pick hrl hg5
        have hsz5 : w.heap.size ≤ w5.heap.size := g5.size
        have hgO5 : gO < w5.heap.size := by omega
        clear hz5 hg5 g2 o2 hr2
        cases b
        · go_wp2_with fail
          go_ret
          exact drawn_own (by have := HXL.out; omega) o5 (hr5.more (by omega)) g5
        · go_wp2_with fail
          refine (pick_c r (m + 1 + (N + 1) + 1 + 1) 3 w5 hr5 (by omega) (by omega) (by omega)).mono ?_
          rintro e w6 ⟨y, rfl, hy0, hy1, hr6, hg6, hz6⟩
          have g6 := grown_pick g5 hg6
          have o6 := o5.pick hrl hg6
          have hsz6 : w.heap.size ≤ w6.heap.size := g6.size
          have hgO6 : gO < w6.heap.size := by omega
          clear hz6 hg6 g5 o5 hr5
          by_cases hy : y = 0
          · subst hy
            have o7 := (Own.new_ w6 [] #[] rfl (by decide)).mono hsz6
            have b7 : Below w.heap.size w6 (w6.alloc (.cells #[] 3)) := (Below.refl _ _).alloc hsz6 _
            have hr7 := hr6.below b7 hrl
            have g7 := grown_step g6 b7 (Nat.le_refl _)
            clear b7 o6 g6 hr6
            go_wp2_with fail
            go_ret
            exact drawn_own (by simp) o7 (hr7.more (by omega)) g7
          · by_cases hy2 : y = 1
            · subst hy2
              clear hy
              go_wp2_with fail
              have b7 : Below w.heap.size w6 (w6.alloc (.cells #[.int .i64 (-1), .int .i64 (1 + (N : Int))] 3)) := (Below.refl _ _).alloc hsz6 _
              have hc7 := cell_two w6 (-1) (1 + (N : Int))
              refine (pick_c r (m + 1 + (N + 1) + 1 + 1 + 1) 2 _ (hr6.below b7 hrl) (by omega) (by omega) (by omega)).mono ?_
              rintro e w8 ⟨u, rfl, hu0, hu1, hr8, hg8, hz8⟩
              have g8 := grown_pick (grown_step g6 b7 (Nat.le_refl _)) hg8
              have o8 := (o6.alloc (.cells #[.int .i64 (-1), .int .i64 (1 + (N : Int))] 3)).pick hrl hg8
              have k1 := hg8.cell hc7.1 (by simp; omega)
              have k2 := hg8.cell hc7.2 (by simp; omega)
              have hc9 := o8.cell (k := 0) (by have := HXL.out; omega)
              have hf9 := o8.frozen 0
              have hs1 := o8.store 0 (-1)
              have hs2 := o8.store 0 (1 + (N : Int))
              have bs1 := (Below.refl w.heap.size w8).setCell (p := ⟨gO, 0, none⟩) hgO (.int .i64 (-1))
              have bs2 := (Below.refl w.heap.size w8).setCell (p := ⟨gO, 0, none⟩) hgO (.int .i64 (1 + (N : Int)))
              have HR := hid (And.intro hs1 (And.intro hs2 (And.intro (hr8.below bs1 hrl) (And.intro (hr8.below bs2 hrl) (And.intro (grown_step g8 bs1 (Nat.le_refl _)) (grown_step g8 bs2 (Nat.le_refl _)))))))
              clear hz8 hg8 b7 hc7 o6 g6 hr6 o8 hs1 hs2 bs1 bs2 hr8 g8
              have hu : u = 0 ∨ u = 1 := by omega
              rcases hu with rfl | rfl
              · go_wp2_with fail
                go_ret
                exact drawn_own (by rw [List.length_set]; have := HXL.out; omega) HR.out.1 (HR.out.2.2.1.more (by omega)) HR.out.2.2.2.2.1
              · go_wp2_with fail
                go_ret
                exact drawn_own (by rw [List.length_set]; have := HXL.out; omega) HR.out.2.1 (HR.out.2.2.2.1.more (by omega)) HR.out.2.2.2.2.2
            · have q1 : (y == 0) = false := by simpa using hy
              have q2 : (y == 1) = false := by simpa using hy2
              clear hy hy2 o6
              go_wp2_with (at_make; refine wpList_mk _ rfl _ _ rfl _ 8 rfl rfl rfl (by omega) ?_; intro w7 o7 b7)
              have g7 := grown_step g6 b7 hsz6
              have hr7 := hr6.below b7 (by omega)
              have o7' := o7.mono hsz6
              clear b7 o7
              go_wp2_with fail
              go_ret
              exact drawn_own (by simp) o7' (hr7.more (by omega)) g7







end Go.Proofs.Ytkbfcaaihellfaa

/- Contracts: BehindOf of the reference; WithOk. -/
namespace Go.Proofs.Ytkbfcaaihellfaa
open Go.RowKit
set_option linter.unusedVariables false

theorem retI_mk {w wr : World} {n c : Nat} {A : Option Addr} {F : Nat → Nat} {L : List Int} (h : L = mk n F) (ho : Own w.heap.size wr (.slice A n c) (mk n F)) (hb : Below w.heap.size w wr) : RetI w L (.returned (.slice A n c)) wr := by
  subst h
  exact ⟨A, c, by rw [mk_len], by rw [mk_len]; exact ho, hb⟩
theorem retI_own {w wr : World} {v : Value} {L : List Int} (ho : Own w.heap.size wr v L) (hb : Below w.heap.size w wr) : RetI w L (.returned v) wr := by
  obtain ⟨A, c, rfl, _⟩ := ho.form
  exact ⟨A, c, rfl, ho, hb⟩
theorem own_empty (w : World) : Own w.heap.size (w.alloc (.cells #[] 3)) (.slice (some ⟨w.heap.size, 0, none⟩) 0 0) [] := Own.new_ w [] #[] rfl (by decide)

set_option maxHeartbeats 800000 in
theorem sBehindOf_c (A B : Option Addr) (c d : Nat) (f g : List Int) (w : World) (hR : RdA w A f) (hS : RdA w B g) (hn : f.length ≤ 1048577) (hm : g.length ≤ 1048577) :
    Calls Try.prog 39 #[.slice A f.length c, .slice B g.length d] w (RetI w (behindL f g)) := by
  have o0 := own_empty w
  have b0 : Below w.heap.size w (w.alloc (.cells #[] 3)) := (Below.refl _ _).alloc (Nat.le_refl _) _
  have c1 := fun W (hb : Below w.heap.size w W) => sMapOk_c A c f W (hR.below hb) hn
  have c2 := fun W (hb : Below w.heap.size w W) => sMapOk_c B d g W (hS.below hb) hm
  by_cases hall : mapOkB f = true ∧ mapOkB g = true ∧ f.length = g.length
  · obtain ⟨hf, hg, hl⟩ := hall
    rw [hf] at c1
    rw [hg] at c2
    have gf := good_of hf
    have gg := good_of hg
    have HE := hid (behindL_good gf gg hl)
    have HG := hid gg
    have HF := hid gf
    have h1 := gf.1.1
    have h7 := gf.1.2
    have C1 := hid c1
    have C2 := hid c2
    have e1 : g.length = f.length := hl.symm
    have HL := hid hl
    rw [e1] at C2 hm ⊢
    clear hf hg gf gg hl c1 c2 e1
    go_enter Try.func39, Try.ntmps39
    go_wp2_with fail
    go_loopw [5, 6] (fun v i wr => ∃ k : Nat, k ≤ f.length ∧ i = .int .i64 k ∧ Own w.heap.size wr v (mk k (fun k => ap g (ap f k))) ∧ Below w.heap.size w wr) (fun _ i _ => f.length - (intOf i).toNat)
    case atStart => exact ⟨0, Nat.zero_le _, rfl, o0, b0⟩
    case round =>
      clear o0 b0
      obtain ⟨k, hk, rfl, ho, hb⟩ := hrel
      by_cases hlt : k < f.length
      · obtain ⟨ad, rfl, hc⟩ := (hR.below hb) k hlt
        have hlt2 := HF.out.ap_lt hlt
        rw [HF.out.nth_ap hlt] at hc
        obtain ⟨bd, rfl, hc3⟩ := (hS.below hb) (ap f k) (by have := HL.out; omega)
        rw [HG.out.nth_ap (by have := HL.out; omega)] at hc3
        have HM := hid (mk_succ k (fun k => ap g (ap f k)))
        have hll := mk_len k (fun k => ap g (ap f k))
        have HLL := hid hll
        have hsz := hb.size
        have K1 := hid (C1.out wr hb)
        have K2 := hid (C2.out wr hb)
        clear hll hR hS C1 C2
        generalize ap g (ap f k) = Y at *
        generalize ap f k = X at *
        generalize mk k (fun k => ap g (ap f k)) = M at *
        go_wp2_with fail
        refine K1.out.mono ?_; rintro e w' ⟨rfl, rfl⟩
        go_wp2_with fail
        refine K2.out.mono ?_; rintro e w' ⟨rfl, rfl⟩
        go_wp2_with (at_builtin; refine wpList_app1 _ rfl _ _ rfl w.heap.size _ M rfl (ho.alloc _) wr.heap.size (Y : Int) rfl (cell_one1 _ _ _) (by have := HLL.out; omega) (by simp; omega) ?_; intro A3 c3 w3 o3 b3)
        have b3' : Below w.heap.size w w3 := (hb.alloc hsz _).trans b3
        clear b3 hb ho
        go_wp2_with fail
        go_roundw
        case rel => exact ⟨k + 1, by omega, by go_num, by rw [HM.out]; exact o3, b3'⟩
        case measure => simp [intOf]; omega
      · obtain rfl : k = f.length := by omega
        obtain ⟨A4, c4, rfl, _⟩ := ho.form
        rw [mk_len] at *
        clear hR hS C1 C2
        go_wp2_with fail
        go_ret
        exact retI_mk HE.out ho hb
  · have HE := hid (behindL_no hall)
    have K1 := hid (c1 _ b0)
    have K2 := hid (c2 _ b0)
    clear c1 c2
    by_cases h0 : 0 < f.length
    · by_cases hl : f.length = g.length
      · have e1 : g.length = f.length := hl.symm
        rw [e1] at K2 hm ⊢
        clear hR hS
        by_cases hf : mapOkB f = true
        · have hg : mapOkB g = false := by
            rcases hg : mapOkB g with _ | _
            · rfl
            · exact absurd ⟨hf, hg, hl⟩ hall
          rw [hf] at K1
          rw [hg] at K2
          clear hf hg hl hall e1
          go_enter Try.func39, Try.ntmps39
          go_wp2_with fail
          refine wp_loop_rounds 1 ?_
          rw [rounds_succ]
          go_wp2_with fail
          refine K1.out.mono ?_; rintro e w' ⟨rfl, rfl⟩
          go_wp2_with fail
          refine K2.out.mono ?_; rintro e w' ⟨rfl, rfl⟩
          go_wp2_with fail
          go_ret
          rw [HE.out]
          exact retI_own o0 b0
        · rw [show mapOkB f = false by simpa using hf] at K1
          clear hf hl hall e1
          go_enter Try.func39, Try.ntmps39
          go_wp2_with fail
          refine wp_loop_rounds 1 ?_
          rw [rounds_succ]
          go_wp2_with fail
          refine K1.out.mono ?_; rintro e w' ⟨rfl, rfl⟩
          go_wp2_with fail
          go_ret
          rw [HE.out]
          exact retI_own o0 b0
      · have q1 : ((f.length : Int) == (g.length : Int)) = false := by simp; omega
        clear hl hall hR hS
        go_enter Try.func39, Try.ntmps39
        go_wp2_with fail
        refine wp_loop_rounds 1 ?_
        rw [rounds_succ]
        go_wp2_with fail
        go_ret
        rw [HE.out]
        exact retI_own o0 b0
    · have q1 : decide ((0 : Int) < (f.length : Int)) = false := decide_eq_false (by omega)
      have q0 : decide (0 < f.length) = false := decide_eq_false (by omega)
      clear hall hR hS h0
      go_enter Try.func39, Try.ntmps39
      go_wp2_with fail
      refine wp_loop_rounds 1 ?_
      rw [rounds_succ]
      go_wp2_with fail
      go_ret
      rw [HE.out]
      exact retI_own o0 b0

/-! ### WithOk -/
def withB (f g : List Int) : Bool := decide (behindL f g ≠ [] ∧ behindL f g = behindL g f)
theorem behindL_ne {f g : List Int} (h : behindL f g ≠ []) : mapOkB f = true ∧ mapOkB g = true ∧ f.length = g.length := by
  rcases Classical.em (mapOkB f = true ∧ mapOkB g = true ∧ f.length = g.length) with h1 | h1
  · exact h1
  · exact absurd (behindL_no h1) h
theorem behindL_len2 {f g : List Int} (h : behindL f g ≠ []) : (behindL f g).length = f.length ∧ (behindL g f).length = f.length ∧ behindL g f ≠ [] := by
  obtain ⟨h1, h2, h3⟩ := behindL_ne h
  have a := (good_behind (good_of h1) (good_of h2) h3).2
  have b := good_behind (good_of h2) (good_of h1) h3.symm
  have := (good_of h1).1
  refine ⟨a, by rw [b.2, h3], fun e => ?_⟩
  have := b.2
  rw [e] at this
  simp at this
  omega

set_option maxHeartbeats 400000 in
theorem l6Same_c (A B : Option Addr) (c d : Nat) (xs ys : List Int) (w : World) (hR : RdA w A xs) (hS : RdA w B ys) (hl : xs.length = ys.length) (hn : xs.length ≤ 1048577) :
    Calls Try.prog 38 #[.slice A xs.length c, .slice B ys.length d] w fun e w' => e = .returned (.bool (decide (xs = ys))) ∧ Below w.heap.size w w' := by
  have HL := hid hl
  have e1 : ys.length = xs.length := hl.symm
  rw [e1]
  clear e1 hl
  go_enter Try.func38, Try.ntmps38
  go_wp2_with fail
  go_loopw [5] (fun i wr => ∃ k : Nat, k ≤ xs.length ∧ i = .int .i64 k ∧ Hid (xs.take k = ys.take k) ∧ Below w.heap.size w wr) (fun i _ => xs.length - (intOf i).toNat)
  case atStart => exact ⟨0, Nat.zero_le _, rfl, rfl, Below.refl _ _⟩
  case round =>
    obtain ⟨k, hk, rfl, HT, hb⟩ := hrel
    by_cases hlt : k < xs.length
    · obtain ⟨ad, rfl, hc⟩ := (hR.below hb) k hlt
      obtain ⟨bd, rfl, hc2⟩ := (hS.below hb) k (by have := HL.out; omega)
      clear hR hS
      by_cases he : nth xs k = nth ys k
      · have HE := hid (eqlen HL.out hlt HT.out he)
        rw [he] at hc
        go_wp2_with fail
        go_region
        all_goals go_wp2_with fail
        all_goals go_roundw
        case rel => exact ⟨k + 1, by omega, by go_num, HE, hb.drew⟩
        case measure => simp [intOf]; omega
      · have hne : (nth xs k == nth ys k) = false := by simpa using he
        have HE := hid (neq_nth he)
        clear he
        go_wp2_with fail
        go_region
        all_goals go_wp2_with fail
        all_goals go_ret
        all_goals exact ⟨ret_bool (by simp [HE.out]), hb.drew⟩
    · obtain rfl : k = xs.length := by omega
      go_wp2_with fail
      go_ret
      refine ⟨ret_bool ?_, hb⟩
      have := HT.out
      rw [List.take_length, HL.out, List.take_length] at this
      simp [this]

theorem iWithOk_c (A B : Option Addr) (c d : Nat) (f g : List Int) (w : World) (hR : RdA w A f) (hS : RdA w B g) (hn : f.length ≤ 1048577) (hm : g.length ≤ 1048577) :
    Calls Try.prog 24 #[.slice A f.length c, .slice B g.length d] w fun e w' => e = .returned (.bool (withB f g)) ∧ Below w.heap.size w w' := by
  have hneq := fun W => run_neq_slice_nil_any (P := Try.prog) W 22 3
  by_cases h0 : behindL f g = []
  · have HE := hid (show withB f g = false by simp [withB, h0])
    have c1 := iBehindOf_c A B c d f g w hR hS hn hm
    rw [h0] at c1
    have hq : ∀ W, (binOp .neq 22 (.slice none 0 0) (.slice none 0 0)).run Try.prog W = .ok (.bool false) W := fun W => hneq W none 0 0 0 0 Try.underlying22
    clear hneq hR hS
    go_enter Try.func24, Try.ntmps24
    go_wp2_with fail
    refine c1.mono ?_
    rintro e w1 ⟨A1, c1, rfl, o1, b1, hnil⟩
    obtain ⟨rfl, rfl⟩ := hnil rfl
    go_wp2_with fail
    go_ret
    exact ⟨ret_bool HE.out.symm, b1⟩
  · obtain ⟨l1, l2, h2⟩ := behindL_len2 h0
    have HE := hid (show withB f g = decide (behindL f g = behindL g f) by simp [withB, h0])
    have c1 := iBehindOf_c A B c d f g w hR hS hn hm
    have c2 := fun W (hb : Below w.heap.size w W) => iBehindOf_c B A d c g f W (hS.below hb) (hR.below hb) hm hn
    have hp : 0 < (behindL f g).length := by rcases hl : (behindL f g).length with _ | k; exact absurd (List.eq_nil_of_length_eq_zero hl) h0; omega
    have C2 := hid c2
    have hL1 : (behindL f g).length ≤ 1048577 := by omega
    have hL2 : (behindL g f).length ≤ 1048577 := by omega
    clear l1 l2 h2 h0 c2
    generalize behindL f g = L1 at *
    generalize behindL g f = L2 at *
    have hq : ∀ W g c, (binOp .neq 22 (.slice (some ⟨g, 0, none⟩) L1.length c) (.slice none 0 0)).run Try.prog W = .ok (.bool true) W := fun W g c => hneq W (some ⟨g, 0, none⟩) L1.length c 0 0 Try.underlying22
    clear hneq
    go_enter Try.func24, Try.ntmps24
    go_wp2_with fail
    refine c1.mono ?_
    rintro e w1 ⟨A1, c1, rfl, o1, b1, _⟩
    obtain ⟨g1, c1', e1, _, _⟩ := o1.pos hp
    injection e1 with e1 _ e2
    subst e1 e2
    clear hp
    go_wp2_with fail
    refine (C2.out w1 b1).mono ?_
    rintro e w2 ⟨A2, c2, rfl, o2, b2, _⟩
    have B2 := b1.trans (b2.mono b1.size)
    have o1' := o1.below b2
    clear b1 b2 o1 hq
    go_wp2_with fail
    refine (equal_c _ A2 _ c2 L1 L2 w2 o1'.rd o2.rd hL1 hL2).mono ?_
    rintro e w3 ⟨rfl, b3⟩
    have B3 := B2.trans (b3.mono B2.size)
    go_wp2_with fail
    go_ret
    exact ⟨ret_bool HE.out.symm, B3⟩

theorem sWithOk_c (A B : Option Addr) (c d : Nat) (f g : List Int) (w : World) (hR : RdA w A f) (hS : RdA w B g) (hn : f.length ≤ 1048577) (hm : g.length ≤ 1048577) :
    Calls Try.prog 45 #[.slice A f.length c, .slice B g.length d] w fun e w' => e = .returned (.bool (withB f g)) ∧ Below w.heap.size w w' := by
  by_cases h0 : behindL f g = []
  · have HE := hid (show withB f g = false by simp [withB, h0])
    have c1 := sBehindOf_c A B c d f g w hR hS hn hm
    rw [h0] at c1
    clear hR hS
    go_enter Try.func45, Try.ntmps45
    go_wp2_with fail
    refine c1.mono ?_
    rintro e w1 ⟨A1, c1, rfl, o1, b1⟩
    go_wp2_with fail
    go_ret
    exact ⟨ret_bool HE.out.symm, b1⟩
  · obtain ⟨l1, l2, h2⟩ := behindL_len2 h0
    have HE := hid (show withB f g = decide (behindL f g = behindL g f) by simp [withB, h0])
    have c1 := sBehindOf_c A B c d f g w hR hS hn hm
    have c2 := fun W (hb : Below w.heap.size w W) => sBehindOf_c B A d c g f W (hS.below hb) (hR.below hb) hm hn
    have hp : 0 < (behindL f g).length := by rcases hl : (behindL f g).length with _ | k; exact absurd (List.eq_nil_of_length_eq_zero hl) h0; omega
    have C2 := hid c2
    have HL := hid (show (behindL f g).length = (behindL g f).length by omega)
    have hL1 : (behindL f g).length ≤ 1048577 := by omega
    clear l1 l2 h2 h0 c2
    generalize behindL f g = L1 at *
    generalize behindL g f = L2 at *
    go_enter Try.func45, Try.ntmps45
    go_wp2_with fail
    refine c1.mono ?_
    rintro e w1 ⟨A1, c1, rfl, o1, b1⟩
    have hp' : 0 < (L1.length : Int) := by omega
    go_wp2_with fail
    refine (C2.out w1 b1).mono ?_
    rintro e w2 ⟨A2, c2, rfl, o2, b2⟩
    have B2 := b1.trans (b2.mono b1.size)
    have o1' := o1.below b2
    clear b1 b2 o1
    go_wp2_with fail
    refine (l6Same_c _ A2 _ c2 L1 L2 w2 o1'.rd o2.rd HL.out hL1).mono ?_
    rintro e w3 ⟨rfl, b3⟩
    have B3 := B2.trans (b3.mono B2.size)
    go_wp2_with fail
    go_ret
    exact ⟨ret_bool HE.out.symm, B3⟩

end Go.Proofs.Ytkbfcaaihellfaa
