/- The walk of the law FnExactPartsOf. -/
import Derived.Test.YtkongicjhdfkiaaA1
namespace Go.Proofs.Ytkongicjhdfkiaa
open Go.RowKit
set_option linter.unusedVariables false

theorem FnExactPartsOf_w (t l : Int) (w : World) :
    Calls Try.prog 3 #[.int .i64 t, .int .i64 l] w fun e w' => e = .returned (.bool true) ∧ Below w.heap.size w w' := by
  go_enter Try.func3, Try.ntmps3
  go_wp2_with fail
  refine (sPartsOf_c _ _ _).mono ?_; rintro e w' ⟨rfl, rfl⟩
  go_wp2_with fail
  refine (iPartsOf_c _ _ _).mono ?_; rintro e w' ⟨rfl, rfl⟩
  go_wp2_with fail
  go_ret
  exact ⟨rfl, Below.refl _ _⟩

end Go.Proofs.Ytkongicjhdfkiaa
