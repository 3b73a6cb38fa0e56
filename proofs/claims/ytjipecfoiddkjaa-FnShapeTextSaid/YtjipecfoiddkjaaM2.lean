/- Contracts of the laws' own helpers over slices of integers: toIntS, eqIntS, markIntS, heldIntS. -/
import Derived.Test.YtjipecfoiddkjaaM1
import Derived.BigQuiet
namespace Go.Proofs.Ytjipecfoiddkjaa
open Go.RowKit
set_option linter.unusedVariables false

def fillT (xs : List Int) (k : Nat) : List Int := xs.take k ++ List.replicate (xs.length - k) 0
theorem fillT_len (xs : List Int) (k : Nat) (h : k ≤ xs.length) : (fillT xs k).length = xs.length := by simp [fillT]; omega
theorem fillT_set (xs : List Int) (k : Nat) (h : k < xs.length) : (fillT xs k).set k (nth xs k) = fillT xs (k + 1) := by
  unfold fillT
  rw [List.set_append_right _ _ (by simp; omega), take_nth h]
  have e : xs.length - k = (xs.length - (k + 1)) + 1 := by omega
  rw [e, List.replicate_succ]
  simp [show min k xs.length = k by omega]

theorem eqlen {xs ys : List Int} (hl : xs.length = ys.length) {k : Nat} (hk : k < xs.length) (h : xs.take k = ys.take k) (he : nth xs k = nth ys k) : xs.take (k + 1) = ys.take (k + 1) := by
  rw [take_nth hk, take_nth (by omega), h, he]
theorem neq_nth {xs ys : List Int} {k : Nat} (he : ¬ nth xs k = nth ys k) : ¬ xs = ys := fun e => he (by rw [e])

/-! ### markIntS, heldIntS -/
def upFrom (k0 : Int) (n : Nat) : List Int := (List.range n).map fun (i : Nat) => k0 + (i : Int)
theorem upFrom_len (k0 : Int) (n : Nat) : (upFrom k0 n).length = n := by simp [upFrom]
theorem upFrom_nth {k0 : Int} {n k : Nat} (h : k < n) : nth (upFrom k0 n) k = k0 + k := by simp [nth, upFrom, h]
def markT (k0 : Int) (xs : List Int) (k : Nat) : List Int := upFrom k0 k ++ xs.drop k
theorem markT_len {k0 : Int} {xs : List Int} {k : Nat} (h : k ≤ xs.length) : (markT k0 xs k).length = xs.length := by simp [markT, upFrom_len]; omega
theorem markT_set {k0 : Int} {xs : List Int} {k : Nat} (h : k < xs.length) : (markT k0 xs k).set k (k0 + k) = markT k0 xs (k + 1) := by
  unfold markT
  rw [List.set_append_right _ _ (by simp [upFrom_len]), upFrom_len, Nat.sub_self]
  rw [List.drop_eq_getElem_cons h, List.set_cons_zero]
  simp [upFrom, List.range_succ]

theorem grown_store {w wr : World} {g : Nat} (h : w.grownBy wr (some g)) (i : Nat) (u : Value) : w.grownBy (wr.setCell ⟨g, i, none⟩ u) (some g) :=
  ⟨h.os, h.tape, h.output, by simpa [World.setCell] using h.size, fun k hk hne => (Below.heap_setCell wr ⟨g, i, none⟩ u k (fun e => hne (by simp [e]))).trans (h.block k hk hne)⟩

end Go.Proofs.Ytjipecfoiddkjaa
