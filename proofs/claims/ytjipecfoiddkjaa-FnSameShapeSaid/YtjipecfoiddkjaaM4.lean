/- What comes in: a slice as the frame of a law tells of it. -/
import Derived.Test.YtjipecfoiddkjaaM2
namespace Go.Proofs.Ytjipecfoiddkjaa
open Go.RowKit
set_option linter.unusedVariables false

def RowIn (k : IntKind) (w : World) (a : Option Addr) (len cap : Nat) (zs : List Int) : Prop :=
  (a = none ∧ len = 0 ∧ cap = 0 ∧ zs = []) ∨
  ∃ x, a = some x ∧ len ≤ cap ∧ cap ≤ maxLen ∧ zs.length = cap ∧ (∀ i, i < zs.length → w.cell? (x.add i) = some (.int k (zs.getD i 0))) ∧ ∀ n ∈ zs, (Lit.int k n).wf = true

theorem RowIn.read {w : World} {a : Option Addr} {len cap : Nat} {zs : List Int} (h : RowIn .i64 w a len cap zs) : ∃ xs : List Int, xs.length = len ∧ RdA w a xs ∧ ∀ n ∈ xs, (Lit.int .i64 n).wf = true := by
  rcases h with ⟨rfl, rfl, rfl, rfl⟩ | ⟨x, rfl, hl, hm, hz, hc, hw⟩
  · exact ⟨[], rfl, RdA.nil, by simp⟩
  · refine ⟨zs.take len, by simp; omega, fun k hk => ⟨x, rfl, ?_⟩, fun n hn => hw n (List.mem_of_mem_take hn)⟩
    rw [List.length_take] at hk
    rw [hc k (by omega)]
    have e : nth (zs.take len) k = zs.getD k 0 := by
      unfold nth
      rw [List.getElem?_take, if_pos (by omega), List.getD_eq_getElem?_getD]
    rw [e]
theorem RowIn.cap {k : IntKind} {w : World} {a : Option Addr} {len cap : Nat} {zs : List Int} (h : RowIn k w a len cap zs) : len ≤ maxLen := by
  rcases h with ⟨rfl, rfl, rfl, rfl⟩ | ⟨x, rfl, hl, hm, hz, hc, hw⟩
  · simp
  · omega

/-- below a block that is the call's own all stays, when it is marked -/
theorem below_mark {B : Nat} {w0 w w' : World} {v : Value} {xs : List Int} (hb : Below w0.heap.size w0 w) (hown : Own B w v xs) (hB : w0.heap.size ≤ B) (hg : w.grownBy w' v.ownBlock) : Below w0.heap.size w0 w' :=
  hb.grown hg hb.size (fun k hk => Nat.le_trans hB (hown.lt k hk).1)
/-- what another slice holds stays, when one is marked -/
theorem Own.apart {B B' : Nat} {w w' : World} {v v' : Value} {xs ys : List Int} (h : Own B w v xs) (h' : Own B' w v' ys) (hB : ∀ g, v.ownBlock = some g → ∀ g', v'.ownBlock = some g' → g ≠ g') (hg : w.grownBy w' v'.ownBlock) : Own B w' v xs := by
  rcases hv : v.ownBlock with _ | g
  · exact h.kept hg (.inl hv)
  · refine h.kept hg (.inr ?_)
    rw [hv]
    intro e
    exact hB g hv g e.symm rfl
end Go.Proofs.Ytjipecfoiddkjaa
