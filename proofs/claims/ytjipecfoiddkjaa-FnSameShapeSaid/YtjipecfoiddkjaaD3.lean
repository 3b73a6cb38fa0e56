/- The reader kept over steps; codes that are drawn. -/
import Derived.Test.YtjipecfoiddkjaaD2
namespace Go.Proofs.Ytjipecfoiddkjaa
open Go.RowKit
set_option linter.unusedVariables false

theorem Rdr.kept {w w' : World} {r m : Nat} (h : Rdr w r m) (hk : ∀ k, k ≤ r → w'.heap[k]? = w.heap[k]?) : Rdr w' r m := by
  obtain ⟨A, n, c, p, hb, hp, hn, hu⟩ := h
  refine ⟨A, n, c, p, (hk r (Nat.le_refl _)).trans hb, hp, hn, fun k hkn => ?_⟩
  obtain ⟨ad, x, e, hlt, hc, hx⟩ := hu k hkn
  exact ⟨ad, x, e, hlt, (World.cell?_of_block (hk _ (by rw [block_of_add]; omega))).trans hc, hx⟩
theorem Rdr.below {B : Nat} {w w' : World} {r m : Nat} (h : Rdr w r m) (hb : Below B w w') (hr : r < B) : Rdr w' r m := h.kept fun k hk => hb.block k (by omega)
theorem Rdr.lt {w : World} {r m : Nat} (h : Rdr w r m) : r < w.heap.size := by
  obtain ⟨A, n, c, p, hb, _⟩ := h
  exact lt_of_block hb
theorem Own.pick {B r : Nat} {w w' : World} {v : Value} {xs : List Int} (h : Own B w v xs) (hr : r < B) (hg : w.grownBy w' (some r)) : Own B w' v xs := by
  rcases hv : v.ownBlock with _ | g
  · exact h.kept hg (.inl hv)
  · refine h.kept hg (.inr ?_)
    rw [hv]
    intro e
    injection e with e
    have := (h.lt g hv).1
    omega
/-- only the reader at r has turned of what was there -/
theorem grown_step {w w1 w2 : World} {r B : Nat} (h : w.grownBy w1 (some r)) (hb : Below B w1 w2) (hB : w.heap.size ≤ B) : w.grownBy w2 (some r) :=
  ⟨hb.os.trans h.os, hb.tape.trans h.tape, hb.output.trans h.output, Nat.le_trans h.size hb.size, fun k hk hne => (hb.block k (by omega)).trans (h.block k hk hne)⟩
theorem grown_pick {w w1 w2 : World} {r : Nat} (h : w.grownBy w1 (some r)) (hg : w1.grownBy w2 (some r)) : w.grownBy w2 (some r) := h.trans hg

/-- a new slice of at most n numbers; the reader goes on by at most d -/
def DrawnR (w : World) (r m d n : Nat) (e : Ending) (w' : World) : Prop :=
  ∃ (xs : List Int) (A : Option Addr) (c : Nat), xs.length ≤ n ∧ e = .returned (.slice A xs.length c) ∧ Own w.heap.size w' (.slice A xs.length c) xs ∧ Rdr w' r (m + d) ∧ w.grownBy w' (some r)
theorem drawn_app {w w' : World} {r m d n : Nat} {xs : List Int} {z : Int} {A : Option Addr} {c : Nat} (hx : xs.length + 1 ≤ n) (ho : Own w.heap.size w' (.slice A (xs.length + 1) c) (xs ++ [z])) (hr : Rdr w' r (m + d)) (hg : w.grownBy w' (some r)) :
    DrawnR w r m d n (.returned (.slice A (xs.length + 1) c)) w' := by
  have e : (xs ++ [z]).length = xs.length + 1 := by simp
  exact ⟨xs ++ [z], A, c, by omega, by rw [e], by rw [e]; exact ho, hr, hg⟩
/-- a new slice of at most n numbers -/
def DrawR (w : World) (n : Nat) (e : Ending) (w' : World) : Prop :=
  ∃ (xs : List Int) (A : Option Addr) (c : Nat), xs.length ≤ n ∧ e = .returned (.slice A xs.length c) ∧ Own w.heap.size w' (.slice A xs.length c) xs ∧ Below w.heap.size w w'

theorem cell_two (w : World) (x y : Int) : (w.alloc (.cells #[.int .i64 x, .int .i64 y] 3)).cell? ⟨w.heap.size, 0, none⟩ = some (.int .i64 x) ∧ (w.alloc (.cells #[.int .i64 x, .int .i64 y] 3)).cell? ⟨w.heap.size, 1, none⟩ = some (.int .i64 y) :=
  ⟨by rw [World.cell?_alloc_at _ _ _ _ rfl]; rfl, by rw [World.cell?_alloc_at _ _ _ _ rfl]; rfl⟩

end Go.Proofs.Ytjipecfoiddkjaa
