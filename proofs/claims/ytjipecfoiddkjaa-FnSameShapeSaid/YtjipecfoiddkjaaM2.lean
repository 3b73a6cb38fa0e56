/- Contracts of the laws' own helpers over slices of integers: toIntS, eqIntS, markIntS, heldIntS. -/
import Derived.Test.YtjipecfoiddkjaaM1
import Derived.BigQuiet
namespace Go.Proofs.Ytjipecfoiddkjaa
open Go.RowKit
set_option linter.unusedVariables false

def fillT (xs : List Int) (k : Nat) : List Int := xs.take k ++ List.replicate (xs.length - k) 0
theorem fillT_len (xs : List Int) (k : Nat) (h : k ≤ xs.length) : (fillT xs k).length = xs.length := by simp [fillT]; omega
theorem fillT_set (xs : List Int) (k : Nat) (h : k < xs.length) : (fillT xs k).set k (nth xs k) = fillT xs (k + 1) := by
  unfold fillT
  rw [List.set_append_right _ _ (by simp; omega), take_nth h]
  have e : xs.length - k = (xs.length - (k + 1)) + 1 := by omega
  rw [e, List.replicate_succ]
  simp [show min k xs.length = k by omega]

theorem eqlen {xs ys : List Int} (hl : xs.length = ys.length) {k : Nat} (hk : k < xs.length) (h : xs.take k = ys.take k) (he : nth xs k = nth ys k) : xs.take (k + 1) = ys.take (k + 1) := by
  rw [take_nth hk, take_nth (by omega), h, he]
theorem neq_nth {xs ys : List Int} {k : Nat} (he : ¬ nth xs k = nth ys k) : ¬ xs = ys := fun e => he (by rw [e])

/-! ### markIntS, heldIntS -/
def upFrom (k0 : Int) (n : Nat) : List Int := (List.range n).map fun (i : Nat) => k0 + (i : Int)
theorem upFrom_len (k0 : Int) (n : Nat) : (upFrom k0 n).length = n := by simp [upFrom]
theorem upFrom_nth {k0 : Int} {n k : Nat} (h : k < n) : nth (upFrom k0 n) k = k0 + k := by simp [nth, upFrom, h]
def markT (k0 : Int) (xs : List Int) (k : Nat) : List Int := upFrom k0 k ++ xs.drop k
theorem markT_len {k0 : Int} {xs : List Int} {k : Nat} (h : k ≤ xs.length) : (markT k0 xs k).length = xs.length := by simp [markT, upFrom_len]; omega
theorem markT_set {k0 : Int} {xs : List Int} {k : Nat} (h : k < xs.length) : (markT k0 xs k).set k (k0 + k) = markT k0 xs (k + 1) := by
  unfold markT
  rw [List.set_append_right _ _ (by simp [upFrom_len]), upFrom_len, Nat.sub_self]
  rw [List.drop_eq_getElem_cons h, List.set_cons_zero]
  simp [upFrom, List.range_succ]

theorem grown_store {w wr : World} {g : Nat} (h : w.grownBy wr (some g)) (i : Nat) (u : Value) : w.grownBy (wr.setCell ⟨g, i, none⟩ u) (some g) :=
  ⟨h.os, h.tape, h.output, by simpa [World.setCell] using h.size, fun k hk hne => (Below.heap_setCell wr ⟨g, i, none⟩ u k (fun e => hne (by simp [e]))).trans (h.block k hk hne)⟩

/-- append of a slice that reads as ys -/
theorem wpList_appS {ops : Array Oper} {rest : List Oper} {o : Oper} {a : Act} {Q : Exit → Act → World → Prop} (w : World) (hgd : o.guard = none) (s x : Operand)
    (ho : o.op = .call { callee := .builtin .append, args := #[s, x], argTypes := #[23, 23] })
    (base : Nat) (v : Value) (xs : List Int) (hs : a.eval s = v) (hown : Own base w v xs) (ad : Addr) (ys : List Int) (c : Nat) (hx : a.eval x = .slice (some ad) ys.length c)
    (hr : ∀ k, k < ys.length → w.cell? (ad.add k) = some (.int .i64 (nth ys k))) (hlen : xs.length + ys.length ≤ 1000000000000) (hbase : base ≤ w.heap.size)
    (hK : ∀ A c w', Own base w' (.slice A (xs.length + ys.length) c) (xs ++ ys) → Below base w w' → wpList Try.prog ops Q rest (a.put o.dst (.slice A (xs.length + ys.length) c)) w') : wpList Try.prog ops Q (o :: rest) a w := by
  obtain ⟨i0, hi, hz0, hz1, hz2⟩ := info_parts info_int
  refine wpList_append_own w hgd s x 23 ho base 3 i0 (.int .i64 0) 1 8 Try.underlying23 hi hz0 hz1 hz2 rfl (by decide) v xs.length (xs.map (Value.int .i64)) hs hown ad ys.length c (ys.map (Value.int .i64)) hx (by simp) ?_ ?_ ?_ ?_ hbase ?_
  · intro j u hj
    rw [List.getElem?_map] at hj
    by_cases hjl : j < ys.length
    · rw [List.getElem?_eq_getElem hjl] at hj
      simp only [Option.map_some, Option.some.injEq] at hj
      rw [hr j hjl, nth_lt hjl, hj]
    · rw [List.getElem?_eq_none (by omega)] at hj
      simp at hj
  · intro u hu
    obtain ⟨z, _, rfl⟩ := List.mem_map.1 hu
    rfl
  · unfold maxLen; omega
  · omega
  · intro v' w' hown' hgrow _
    have ho' : Own base w' v' (xs ++ ys) := by unfold Own; simpa using hown'
    obtain ⟨A, c, e, _⟩ := ho'.form
    rw [e] at ho' ⊢
    rw [List.length_append] at ho' ⊢
    exact hK A c w' ho' ((Below.refl base w).grown hgrow hbase (fun k hk => (hown.lt k hk).1))

theorem wpList_appE {ops : Array Oper} {rest : List Oper} {o : Oper} {a : Act} {Q : Exit → Act → World → Prop} (w : World) (hgd : o.guard = none) (s x : Operand)
    (ho : o.op = .call { callee := .builtin .append, args := #[s, x], argTypes := #[23, 23] })
    (base : Nat) (v : Value) (hs : a.eval s = v) (hown : Own base w v []) (ad : Addr) (ys : List Int) (c : Nat) (hx : a.eval x = .slice (some ad) ys.length c)
    (hr : ∀ k, k < ys.length → w.cell? (ad.add k) = some (.int .i64 (nth ys k))) (hlen : ys.length ≤ 1000000000) (hbase : base ≤ w.heap.size)
    (hK : ∀ A c w', Own base w' (.slice A ys.length c) ys → Below base w w' → wpList Try.prog ops Q rest (a.put o.dst (.slice A ys.length c)) w') : wpList Try.prog ops Q (o :: rest) a w := by
  refine wpList_appS w hgd s x ho base v [] hs hown ad ys c hx hr (by simp; omega) hbase ?_
  rw [show ([] : List Int).length + ys.length = ys.length by simp]
  exact hK

end Go.Proofs.Ytjipecfoiddkjaa
