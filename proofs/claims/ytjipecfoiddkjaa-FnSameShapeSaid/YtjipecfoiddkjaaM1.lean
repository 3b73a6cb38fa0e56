/- Words for slices of integers: what a slice reads as; what the call owns; append, make. -/
import Derived.Test.YtjipecfoiddkjaaA1
import Derived.Test.YtjipecfoiddkjaaP1
import Derived.WalkKit
import Derived.Maps.AppendAt
namespace Go.Proofs.Ytjipecfoiddkjaa
open Go.RowKit
set_option linter.unusedVariables false



/-- the slice at A reads as xs -/
def RdA (w : World) (A : Option Addr) (xs : List Int) : Prop := ∀ k, k < xs.length → ∃ ad, A = some ad ∧ w.cell? (ad.add k) = some (.int .i64 (nth xs k))
/-- the slice v is the call's own (from block B on) and holds xs -/
def Own (B : Nat) (w : World) (v : Value) (xs : List Int) : Prop := w.ownsRow B 3 1 v xs.length (xs.map (Value.int .i64))
/-- a new slice that holds xs is handed back; what was there stays -/
def RetI (w : World) (xs : List Int) (e : Ending) (w' : World) : Prop := ∃ A c, e = .returned (.slice A xs.length c) ∧ Own w.heap.size w' (.slice A xs.length c) xs ∧ Below w.heap.size w w'

theorem block_of_add (a : Addr) (n : Nat) : (a.add n).block = a.block := by unfold Addr.add; split <;> rfl
theorem lt_of_cell {w : World} {a : Addr} {v : Value} (h : w.cell? a = some v) : a.block < w.heap.size := block_lt_of_cell h

theorem RdA.below {w w' : World} {A : Option Addr} {xs : List Int} (h : RdA w A xs) (hb : Below w.heap.size w w') : RdA w' A xs := fun k hk => by
  obtain ⟨ad, e, hc⟩ := h k hk
  exact ⟨ad, e, (hb.cell (lt_of_cell hc)).trans hc⟩
theorem RdA.nil {w : World} {A : Option Addr} : RdA w A [] := fun k hk => absurd hk (by simp)
theorem RdA.drew {w : World} {A : Option Addr} {xs : List Int} (h : RdA w A xs) : RdA w.drew A xs := h
theorem RdA.at_ {w : World} {A : Option Addr} {xs : List Int} (h : RdA w A xs) {k : Nat} (hk : k < xs.length) : ∃ ad, A = some ad ∧ w.cell? (ad.add k) = some (.int .i64 (nth xs k)) := h k hk
theorem RdA.some_ {w : World} {A : Option Addr} {xs : List Int} (h : RdA w A xs) (hx : 0 < xs.length) : ∃ ad, A = some ad ∧ ∀ k, k < xs.length → w.cell? (ad.add k) = some (.int .i64 (nth xs k)) := by
  obtain ⟨ad, e, _⟩ := h 0 hx
  refine ⟨ad, e, fun k hk => ?_⟩
  obtain ⟨ad', e', hc⟩ := h k hk
  rw [e] at e'
  injection e' with e'
  subst e'
  exact hc

theorem Own.mono {B B' : Nat} {w : World} {v : Value} {xs : List Int} (h : Own B w v xs) (hB : B' ≤ B) : Own B' w v xs := by
  refine ⟨h.1, ?_⟩
  rcases h.2 with h2 | ⟨g, cap, cur, hv, hg, r⟩
  · exact .inl h2
  · exact .inr ⟨g, cap, cur, hv, Nat.le_trans hB hg, r⟩
theorem Own.kept {B : Nat} {w w' : World} {v : Value} {xs : List Int} {row : Option Nat} (h : Own B w v xs) (hg : w.grownBy w' row) (hne : v.ownBlock = none ∨ v.ownBlock ≠ row) : Own B w' v xs := World.ownsRow.kept h hg hne
theorem grown_of_below {w w' : World} (hb : Below w.heap.size w w') (row : Option Nat) : w.grownBy w' row := ⟨hb.os, hb.tape, hb.output, hb.size, fun k hk _ => hb.block k hk⟩
theorem Own.below {B : Nat} {w w' : World} {v : Value} {xs : List Int} (h : Own B w v xs) (hb : Below w.heap.size w w') : Own B w' v xs := by
  rcases hv : v.ownBlock with _ | g
  · exact h.kept (grown_of_below hb none) (.inl hv)
  · exact h.kept (grown_of_below hb none) (.inr (by rw [hv]; simp))
theorem Own.alloc {B : Nat} {w : World} {v : Value} {xs : List Int} (h : Own B w v xs) (o : Obj) : Own B (w.alloc o) v xs := h.below ((Below.refl _ _).alloc (Nat.le_refl _) o)
theorem Own.drew {B : Nat} {w : World} {v : Value} {xs : List Int} (h : Own B w v xs) : Own B w.drew v xs := h
theorem Own.lt {B : Nat} {w : World} {v : Value} {xs : List Int} (h : Own B w v xs) : ∀ k, v.ownBlock = some k → B ≤ k ∧ k < w.heap.size := World.ownsRow.lt h
theorem Own.nil (B : Nat) (w : World) : Own B w (.slice none 0 0) [] := World.ownsRow_nil _ _ _ _
theorem Own.new_ (w : World) (xs : List Int) (cs : Array Value) (hcs : cs = (xs.map (Value.int .i64)).toArray) (h : xs.length ≤ maxLen) : Own w.heap.size (w.alloc (.cells cs 3)) (.slice (some ⟨w.heap.size, 0, none⟩) xs.length xs.length) xs := by
  have := World.ownsRow_lit (base := w.heap.size) (e := 3) (size := 1) w cs xs.length (Nat.le_refl _) h (by rw [hcs]; simp)
  unfold Own
  rw [hcs] at this ⊢
  simpa using this

/-- the shape of a slice that is owned -/
theorem Own.form {B : Nat} {w : World} {v : Value} {xs : List Int} (h : Own B w v xs) : ∃ A c, v = .slice A xs.length c ∧ RdA w A xs := by
  rcases h.2 with ⟨rfl, h0⟩ | ⟨g, cap, cur, rfl, hg, hh, r⟩
  · refine ⟨none, 0, by rw [h0], fun k hk => by omega⟩
  · refine ⟨some ⟨g, 0, none⟩, cap, rfl, fun k hk => ⟨_, rfl, ?_⟩⟩
    have := World.ownsRow.cells h (g := g) rfl k (.int .i64 (nth xs k)) (by rw [List.getElem?_map, List.getElem?_eq_getElem hk, nth_lt hk]; rfl)
    exact this
theorem Own.rd {B : Nat} {w : World} {A : Option Addr} {n c : Nat} {xs : List Int} (h : Own B w (.slice A n c) xs) : RdA w A xs := by
  obtain ⟨A', c', e, hr⟩ := h.form
  injection e with e1 e2 e3
  subst e1
  exact hr
theorem Own.len {B : Nat} {w : World} {A : Option Addr} {n c : Nat} {xs : List Int} (h : Own B w (.slice A n c) xs) : n = xs.length := by
  obtain ⟨A', c', e, hr⟩ := h.form
  injection e
theorem Own.pos {B : Nat} {w : World} {v : Value} {xs : List Int} (h : Own B w v xs) (hx : 0 < xs.length) : ∃ g c, v = .slice (some ⟨g, 0, none⟩) xs.length c ∧ B ≤ g ∧ g < w.heap.size := by
  rcases h.2 with ⟨rfl, h0⟩ | ⟨g, cap, cur, rfl, hg, hh, r⟩
  · omega
  · exact ⟨g, cap, rfl, hg, lt_of_block hh⟩
theorem add_g (g k : Nat) : (⟨g, 0, none⟩ : Addr).add k = ⟨g, k, none⟩ := by unfold Addr.add; split <;> simp_all
theorem Own.cell {B g n c : Nat} {w : World} {xs : List Int} (h : Own B w (.slice (some ⟨g, 0, none⟩) n c) xs) {k : Nat} (hk : k < xs.length) : w.cell? ⟨g, k, none⟩ = some (.int .i64 (nth xs k)) := by
  obtain ⟨ad, e, hc⟩ := h.rd k hk
  injection e with e
  subst e
  rwa [add_g] at hc
theorem Own.frozen {B g n c : Nat} {w : World} {xs : List Int} (h : Own B w (.slice (some ⟨g, 0, none⟩) n c) xs) (k : Nat) : w.frozen? ⟨g, k, none⟩ = false := by
  obtain rfl := h.len
  exact World.ownsRow.frozenAt h k
theorem Own.store {B g n c : Nat} {w : World} {xs : List Int} (h : Own B w (.slice (some ⟨g, 0, none⟩) n c) xs) (k : Nat) (u : Int) :
    Own B (w.setCell ⟨g, k, none⟩ (.int .i64 u)) (.slice (some ⟨g, 0, none⟩) n c) (xs.set k u) := by
  obtain rfl := h.len
  have := (World.ownsRow.stored h k (.int .i64 u)).1
  unfold Own
  rw [List.map_set, List.length_set]
  exact this
theorem Own.ge {B g n c : Nat} {w : World} {xs : List Int} (h : Own B w (.slice (some ⟨g, 0, none⟩) n c) xs) : B ≤ g ∧ g < w.heap.size := h.lt g rfl

theorem cell_one1 (w : World) (v : Value) (t : TypeId) : (w.alloc (.cells #[v] t)).cell? ⟨w.heap.size, 0, none⟩ = some v := by
  rw [World.cell?_alloc_at _ _ _ _ rfl]; rfl
theorem info_int : (Try.prog.info? 3).map (fun i => (i.zero, i.size, i.bytes)) = some (some (.int .i64 0), 1, 8) := by kernel_rfl

/-- append of one number -/
theorem wpList_app1 {ops : Array Oper} {rest : List Oper} {o : Oper} {a : Act} {Q : Exit → Act → World → Prop} (w : World) (hgd : o.guard = none) (s x : Operand)
    (ho : o.op = .call { callee := .builtin .append, args := #[s, x], argTypes := #[23, 23] })
    (base : Nat) (v : Value) (xs : List Int) (hs : a.eval s = v) (hown : Own base w v xs) (g : Nat) (z : Int) (hx : a.eval x = .slice (some ⟨g, 0, none⟩) 1 1)
    (hc : w.cell? ⟨g, 0, none⟩ = some (.int .i64 z)) (hlen : xs.length ≤ 1000000000000) (hbase : base ≤ w.heap.size)
    (hK : ∀ A c w', Own base w' (.slice A (xs.length + 1) c) (xs ++ [z]) → Below base w w' → wpList Try.prog ops Q rest (a.put o.dst (.slice A (xs.length + 1) c)) w') : wpList Try.prog ops Q (o :: rest) a w := by
  obtain ⟨i0, hi, hz0, hz1, hz2⟩ := info_parts info_int
  refine wpList_append_own w hgd s x 23 ho base 3 i0 (.int .i64 0) 1 8 Try.underlying23 hi hz0 hz1 hz2 rfl (by decide) v xs.length (xs.map (Value.int .i64)) hs hown ⟨g, 0, none⟩ 1 1 [.int .i64 z] hx rfl ?_ ?_ ?_ ?_ hbase ?_
  · intro j u hj
    match j, hj with
    | 0, hj => simp at hj; subst hj; simpa [Addr.add] using hc
  · intro u hu; simp at hu; subst hu; rfl
  · unfold maxLen; omega
  · omega
  · intro v' w' hown' hgrow _
    have ho' : Own base w' v' (xs ++ [z]) := by unfold Own; simpa using hown'
    obtain ⟨A, c, e, _⟩ := ho'.form
    rw [e] at ho' ⊢
    rw [List.length_append] at ho' ⊢
    exact hK A c w' ho' ((Below.refl base w).grown hgrow hbase (fun k hk => (hown.lt k hk).1))

/-- make of n zeros -/
theorem wpList_mk {ops : Array Oper} {rest : List Oper} {o : Oper} {a : Act} {Q : Exit → Act → World → Prop} (w : World) (hg : o.guard = none) (l c : Operand) (hop : o.op = Op.makeSlice 23 l c)
    (N : Int) (n : Nat) (hl : a.eval l = .int .i64 N) (hc : a.eval c = .int .i64 N) (hN : N = (n : Int)) (hn : n ≤ 1000000000000)
    (hK : ∀ w', Own w.heap.size w' (.slice (some ⟨w.heap.size, 0, none⟩) n n) (List.replicate n 0) → Below w.heap.size w w' → wpList Try.prog ops Q rest (a.put o.dst (.slice (some ⟨w.heap.size, 0, none⟩) n n)) w') :
    wpList Try.prog ops Q (o :: rest) a w := by
  obtain ⟨i0, hi, hz0, hz1, hz2⟩ := info_parts info_int
  refine wpList_make_full w hg l c 23 hop w.heap.size 3 i0 (.int .i64 0) 1 Try.underlying23 hi hz0 hz1 .i64 .i64 N N n hl hc hN hN (by rw [hz2]; omega) (by unfold maxLen; omega) (Nat.le_refl _) ?_
  intro w' hown hgrow
  refine hK w' ?_ ((Below.refl _ w).grown hgrow (Nat.le_refl _) (fun k hk => by cases hk))
  unfold Own
  simp only [Value.cells, toList_madeCells_one, Nat.mul_one] at hown
  simpa using hown

end Go.Proofs.Ytjipecfoiddkjaa
