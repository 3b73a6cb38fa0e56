/- The draws of the counts. -/
import Derived.Test.YtjipecfoiddkjaaD1
namespace Go.Proofs.Ytjipecfoiddkjaa
open Go.RowKit
set_option linter.unusedVariables false

theorem below_pick {B r : Nat} {w w1 w2 : World} (h : Below B w w1) (hB : B ≤ r) (hz : B ≤ w1.heap.size) (hg : w1.grownBy w2 (some r)) : Below B w w2 :=
  h.grown hg hz (fun k hk => by injection hk with hk; omega)

/-- one number in a range -/
def NumR (w : World) (lo hi : Int) (e : Ending) (w' : World) : Prop := ∃ z : Int, e = .returned (.int .i64 z) ∧ lo ≤ z ∧ z ≤ hi ∧ Below w.heap.size w w'
/-- two numbers in ranges -/
def NumR2 (w : World) (lo hi lo2 hi2 : Int) (e : Ending) (w' : World) : Prop := ∃ z y : Int, e = .returned (.tuple #[.int .i64 z, .int .i64 y]) ∧ lo ≤ z ∧ z ≤ hi ∧ lo2 ≤ y ∧ y ≤ hi2 ∧ Below w.heap.size w w'


end Go.Proofs.Ytjipecfoiddkjaa
