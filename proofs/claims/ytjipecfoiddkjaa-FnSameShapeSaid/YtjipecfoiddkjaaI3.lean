/- Contracts of chapter 1: what leads to a thing, the image. -/
import Derived.Test.YtjipecfoiddkjaaI2
namespace Go.Proofs.Ytjipecfoiddkjaa
open Go.RowKit Go.Shelf
set_option linter.unusedVariables false
attribute [local go_sem] Oper.semAt_some



end Go.Proofs.Ytjipecfoiddkjaa
