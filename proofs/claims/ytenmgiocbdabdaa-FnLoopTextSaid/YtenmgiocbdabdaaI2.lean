/- What collects what an iterator yields; the things led to a thing; the image. -/
import Derived.Test.YtenmgiocbdabdaaI1
import Derived.Maps.AppendAt
namespace Go.Proofs.Ytenmgiocbdabdaa
open Go.RowKit Go.Shelf
set_option linter.unusedVariables false
attribute [local go_sem] Oper.semAt_some

theorem from_stops (n : Nat) (hn : 1 ≤ n) (Bs Bt n₀ cap : Nat) (ad : Addr) (f : List Int) (t : Int) (h7 : f.length ≤ 7) (had : ad.block < n₀) (hBn : Bs < n₀) (hTn : Bt < n₀) (w : World) (hn₀ : n₀ ≤ w.heap.size)
    (hBs : w.cell? ⟨Bs, 0, none⟩ = some (.slice (some ad) f.length cap)) (hBt : w.cell? ⟨Bt, 0, none⟩ = some (.int .i64 t)) (hc : ∀ k, k < f.length → w.cell? (ad.add k) = some (.int .i64 (nth f k))) :
    SeqStopsK Fence.wide n Try.prog 173 #[.pointer (some ⟨Bs, 0, none⟩), .pointer (some ⟨Bt, 0, none⟩)] (fun x : Th f t => #[Value.int .i64 (x.1 : Nat)]) (Below n₀) (fun ys => ys.map (·.1) = frN f t f.length) (fun _ => True) f.length w := fun l J Jx W hW _ _ hY h0 =>
  from1_in n hn l Bs Bt n₀ cap ad f t h7 had hBn hTn J Jx hY W ((hW.cell (p := ⟨Bs, 0, none⟩) (by show Bs < _; omega)).trans hBs) ((hW.cell (p := ⟨Bt, 0, none⟩) (by show Bt < _; omega)).trans hBt)
    (fun k hk => (hW.cell (p := ad.add k) (by rw [block_of_add]; omega)).trans (hc k hk)) h0
theorem from_c (A : Option Addr) (n c : Nat) (t : Int) (w : World) :
    Calls Try.prog 151 #[.slice A n c, .int .i64 t] w fun e w' => e = .returned (.func (.func 173) #[] #[.pointer (some ⟨w.heap.size, 0, none⟩), .pointer (some ⟨w.heap.size + 1, 0, none⟩)]) ∧
      w' = (w.alloc (.cells #[.slice A n c] 65)).alloc (.cells #[.int .i64 t] 3) := by
  have hmf : ∀ (fn : Fn) (first cap : Array Value) (w : World), (Instr.makeFunc fn first cap).run Try.prog w = .ok (.func fn first cap) w := fun _ _ _ _ => rfl
  go_enter Try.func151, Try.ntmps151
  go_wp2_with fail
  go_ret
  exact ⟨rfl, rfl⟩

def CollR {α : Type} (val : α → Nat) (S : List α → Prop) (w : World) (e : Ending) (w' : World) : Prop := ∃ ys : List α, S ys ∧ ∃ v, e = .returned v ∧ Own w.heap.size w' v (ints (ys.map val)) ∧ Below w.heap.size w w'
theorem int_map {α : Type} (val : α → Nat) (ys : List α) : (ints (ys.map val)).map (Value.int .i64) = ys.map fun x => Value.int .i64 (val x : Nat) := by simp [ints]
set_option maxRecDepth 100000 in
set_option maxHeartbeats 2000000 in
theorem appendSeq_in {α : Type} (val : α → Nat) (n : Nat) (hn : 3 ≤ n) (gf : Nat) (lb : Array Value) (S Sp : List α → Prop) (N : Nat) (hN : N ≤ 1000) (w : World)
    (eg : ∀ args W, (callFunc gf args).run Try.prog W = .ok (.enter gf args) W)
    (hseq : SeqStopsK Fence.wide (n - 1) Try.prog gf lb (fun x => #[Value.int .i64 (val x : Nat)]) (Below w.heap.size) S Sp N w) :
    CallsIn Fence.wide n Try.prog 168 #[.slice none 0 0, .func (.func gf) #[] lb] w (CollR val S w) := by
  have h1 : 1 ≤ n := by omega
  obtain ⟨i0, hi, hz0, hz1, hz2⟩ := info_parts info_int
  refine callsIn_of_wp_marks Try.func168 rfl trivial ?_ rfl
  simp only [Try.ntmps168, List.size_toArray, List.length_cons, List.length_nil, Nat.reduceAdd, Nat.reduceSub, Array.replicate_succ, Array.replicate_zero, List.push_toArray, List.append_toArray, List.nil_append, List.cons_append]
  gi_wp2
  have bO := Boxed.new w 23 (.slice none 0 0)
  have hB0 : Below w.heap.size w (w.alloc (.cells #[.slice none 0 0] 23)) := (Below.refl _ w).alloc (Nat.le_refl _) _
  refine wpIn_rangeFunc_ownG rfl h1 (gf := gf) (lb := lb) rfl trivial eg hseq belowK_t (belowK_b (by simp)) hB0 (fun _ => rfl)
    (fun pre W => (∃ v, Boxed W w.heap.size 23 v ∧ W.ownsRow w.heap.size 3 1 v pre.length (pre.map fun x => Value.int .i64 (val x : Nat)) ∧ (v = .slice none 0 0 ↔ pre = [])) ∧ Below w.heap.size w W)
    (fun _ _ _ => False)
    (OwnFrom.and (Own.from (holdsRow_own w.heap.size w.heap.size 23 3 1 (fun pre => pre.length) (fun pre => pre.map fun x => Value.int .i64 (val x : Nat)) (fun pre v => v = .slice none 0 0 ↔ pre = [])) _) (ownFrom_below (Nat.le_refl _) (by simp)))
    (fun _ _ _ _ _ hs _ _ => hs)
    ⟨⟨_, bO, World.ownsRow_nil _ _ _ _, by simp⟩, hB0⟩
    (fun x => { tmps := #[.slice none 0 0, .func (.func gf) #[] lb, .pointer (some ⟨w.heap.size, 0, none⟩), undef, .slice none 0 0, .int .i64 (val x : Nat), .func (.func gf) #[] lb, .int .i64 (val x : Nat), undef, undef, undef, undef, undef], defers := [] }) ?assign ?body ?done ?stop
  case assign =>
    intro l x W K hK
    gi_wp2
    exact hK
  case body =>
    rintro l pre x W ⟨⟨v, hv, hrow, hnil⟩, hB⟩ hlt
    have hc := hv.cell
    gi_wp2_with (gi_at_builtin; refine wpListIn_append_own _ rfl _ _ 23 rfl w.heap.size 3 i0 (.int .i64 0) 1 8 Try.underlying23 hi hz0 hz1 hz2 rfl (by decide) _ _ _ rfl (hrow.alloc _) ⟨W.heap.size, 0, none⟩ 1 1 [.int .i64 (val x : Nat)] rfl rfl (cell_one_new _ _ _) (by simp [Value.oneCell']) (by unfold maxLen; omega) (by omega) (by have := hB.size; simp; omega) ?_; intro v' w1 hown' hgrow _; obtain ⟨g', cap', rfl⟩ := ownsRow_succ hown'; obtain ⟨hv1, hv2, hr2, hk2, hb2⟩ := hv.appended (by decide) hrow hB.size (Nat.le_refl _) hown' hgrow; have hc1 := hv1.cell; have hf1 := hv1.frozen)
    exact ⟨hk2.from _, hb2, ⟨_, hv2, by simpa using hr2, by simp⟩, hB.trans hb2⟩
  case done =>
    rintro D ys W hD hS ⟨⟨v, hv, hrow, hnil⟩, hB⟩ hK
    have hc := hv.cell
    gi_wp2
    refine ⟨by simp, .inl ⟨_, _, rfl, run_takeDeferred hK, ?_⟩⟩
    refine ⟨_, results_tmp rfl _ _ _, ys, hS, v, rfl, ?_, hB.trans (belowK_b (w := w) (Nat.le_refl _) W D _ _ (by simp at hD; omega) hK rfl rfl)⟩
    have := ownsRow_putObj hrow (.deferred none) hK rfl
    unfold Own
    rw [int_map, ints_len, List.length_map]
    exact this
  case stop =>
    rintro D c pre W _ _ h _
    exact h.elim

end Go.Proofs.Ytenmgiocbdabdaa
