/-
  No cell of these rows narrows 'for every input' (looked for: loops, veiled, ifaces, maps, wideKeys, modest, calm, conditions, laid).
  DERIVED. THE GIVEN ROWS OF THIS SEAT. 28 by the template 'for every input the law returns true; each argument reads behind the call as it read before'; 0 by the template 'total and deterministic' (their statements: YtenmgiocbdabdaaTotals.lean).
  GIVEN WITH THE SEED: the statements are not yours to turn. If you find one false, say at which input.
  Laid BY PROGRAM, IN A SANDBOX (cutbox-rows.mjs): the forced cells as the released guide's own fill.sh prints them over the translation 2e324e1767798a51… (all of the seat's roots in one cut). By AI agents, Wed Nov 11 2026. No macro, syntax, notation, axiom, sorry.
-/
import Derived.Test.YtenmgiocbdabdaaChecked
import GoSem.Claim
import GoSem.ClaimJoined
import GoSem.ClaimMapViews
import Derived.JoinedTies
import Derived.KernelRfl
namespace Go.Proofs.Ytenmgiocbdabdaa
/- THE CELL 'sum', in the pinned program and in every row, IS THE sha256 OF THE DUMP (.gsa) THAT YtenmgiocbdabdaaProg.lean LOADS. Nothing in Lean hashes anything: it is a label: what it is worth is what the hold of that sum in a sandbox is worth. -/
noncomputable def Try.pinned : Pinned := { name := "ytenmgiocbdabdaa", sum := "2e324e1767798a51d379ead215feecf18e58730fb98319effad18fe803f4a2ba", checked := Try.checked }
namespace Rows
def none {H : Type} : Left H := { results := [], args := [] }

/-- 'laws.FnNamedOf': WHATEVER THE INPUT: true; the input reads as it did. -/
def fnNamedOfSpec : ChangeSpec := { name := "fnNamedOf", fn := fun _ => fun
  | [d] => { results := [.lit (.bool true)], args := [d] }
  | _ => none }
def fnNamedOfRow : OpenClaim := { program := "ytenmgiocbdabdaa", sum := "2e324e1767798a51d379ead215feecf18e58730fb98319effad18fe803f4a2ba", func := "loop.example/selfmaps/laws.FnNamedOf", spec := "fnNamedOf", inPlace := ["internal/abi.NoEscape", "internal/bytealg.MakeNoZero"], unfollowed := true, recurses := true, apart := false }
def FnNamedOfSaid : Prop := fnNamedOfRow.holds Try.pinned (OpenSpec.ofChange fnNamedOfSpec)

/-- ITS FALSE NEIGHBOUR: 'it returns false'. Refute it at one input. -/
def fnNamedOfWrong : ChangeSpec := { name := "fnNamedOf", fn := fun _ => fun
  | [d] => { results := [.lit (.bool false)], args := [d] }
  | _ => none }
def FnNamedOfWrongFalsely : Prop := fnNamedOfRow.holds Try.pinned (OpenSpec.ofChange fnNamedOfWrong)

/-- 'laws.FnShapeText': WHATEVER THE INPUT: true; the input reads as it did. -/
def fnShapeTextSpec : ChangeSpec := { name := "fnShapeText", fn := fun _ => fun
  | [d] => { results := [.lit (.bool true)], args := [d] }
  | _ => none }
def fnShapeTextRow : OpenClaim := { program := "ytenmgiocbdabdaa", sum := "2e324e1767798a51d379ead215feecf18e58730fb98319effad18fe803f4a2ba", func := "loop.example/selfmaps/laws.FnShapeText", spec := "fnShapeText", inPlace := ["internal/abi.NoEscape", "internal/bytealg.MakeNoZero"], unfollowed := true, recurses := true, apart := false }
def FnShapeTextSaid : Prop := fnShapeTextRow.holds Try.pinned (OpenSpec.ofChange fnShapeTextSpec)

/-- ITS FALSE NEIGHBOUR: 'it returns false'. Refute it at one input. -/
def fnShapeTextWrong : ChangeSpec := { name := "fnShapeText", fn := fun _ => fun
  | [d] => { results := [.lit (.bool false)], args := [d] }
  | _ => none }
def FnShapeTextWrongFalsely : Prop := fnShapeTextRow.holds Try.pinned (OpenSpec.ofChange fnShapeTextWrong)

/-- 'laws.FnExactWithOk': WHATEVER THE INPUT: true; the input reads as it did. -/
def fnExactWithOkSpec : ChangeSpec := { name := "fnExactWithOk", fn := fun _ => fun
  | [d1, d2] => { results := [.lit (.bool true)], args := [d1, d2] }
  | _ => none }
def fnExactWithOkRow : OpenClaim := { program := "ytenmgiocbdabdaa", sum := "2e324e1767798a51d379ead215feecf18e58730fb98319effad18fe803f4a2ba", func := "loop.example/selfmaps/laws.FnExactWithOk", spec := "fnExactWithOk", apart := false }
def FnExactWithOkSaid : Prop := fnExactWithOkRow.holds Try.pinned (OpenSpec.ofChange fnExactWithOkSpec)

/-- ITS FALSE NEIGHBOUR: 'it returns false'. Refute it at one input. -/
def fnExactWithOkWrong : ChangeSpec := { name := "fnExactWithOk", fn := fun _ => fun
  | [d1, d2] => { results := [.lit (.bool false)], args := [d1, d2] }
  | _ => none }
def FnExactWithOkWrongFalsely : Prop := fnExactWithOkRow.holds Try.pinned (OpenSpec.ofChange fnExactWithOkWrong)

/-- 'laws.FnSameShape': WHATEVER THE INPUT: true; the input reads as it did. -/
def fnSameShapeSpec : ChangeSpec := { name := "fnSameShape", fn := fun _ => fun
  | [d] => { results := [.lit (.bool true)], args := [d] }
  | _ => none }
def fnSameShapeRow : OpenClaim := { program := "ytenmgiocbdabdaa", sum := "2e324e1767798a51d379ead215feecf18e58730fb98319effad18fe803f4a2ba", func := "loop.example/selfmaps/laws.FnSameShape", spec := "fnSameShape", inPlace := ["internal/abi.NoEscape", "internal/bytealg.MakeNoZero"], unfollowed := true, recurses := true, apart := false }
def FnSameShapeSaid : Prop := fnSameShapeRow.holds Try.pinned (OpenSpec.ofChange fnSameShapeSpec)

/-- ITS FALSE NEIGHBOUR: 'it returns false'. Refute it at one input. -/
def fnSameShapeWrong : ChangeSpec := { name := "fnSameShape", fn := fun _ => fun
  | [d] => { results := [.lit (.bool false)], args := [d] }
  | _ => none }
def FnSameShapeWrongFalsely : Prop := fnSameShapeRow.holds Try.pinned (OpenSpec.ofChange fnSameShapeWrong)

/-- 'laws.FnExactNamedOf': WHATEVER THE INPUT: true; the input reads as it did. -/
def fnExactNamedOfSpec : ChangeSpec := { name := "fnExactNamedOf", fn := fun _ => fun
  | [d1, d2] => { results := [.lit (.bool true)], args := [d1, d2] }
  | _ => none }
def fnExactNamedOfRow : OpenClaim := { program := "ytenmgiocbdabdaa", sum := "2e324e1767798a51d379ead215feecf18e58730fb98319effad18fe803f4a2ba", func := "loop.example/selfmaps/laws.FnExactNamedOf", spec := "fnExactNamedOf", apart := false }
def FnExactNamedOfSaid : Prop := fnExactNamedOfRow.holds Try.pinned (OpenSpec.ofChange fnExactNamedOfSpec)

/-- ITS FALSE NEIGHBOUR: 'it returns false'. Refute it at one input. -/
def fnExactNamedOfWrong : ChangeSpec := { name := "fnExactNamedOf", fn := fun _ => fun
  | [d1, d2] => { results := [.lit (.bool false)], args := [d1, d2] }
  | _ => none }
def FnExactNamedOfWrongFalsely : Prop := fnExactNamedOfRow.holds Try.pinned (OpenSpec.ofChange fnExactNamedOfWrong)

/-- 'laws.FnOnLoopsOf': WHATEVER THE INPUT: true; the input reads as it did. -/
def fnOnLoopsOfSpec : ChangeSpec := { name := "fnOnLoopsOf", fn := fun _ => fun
  | [d] => { results := [.lit (.bool true)], args := [d] }
  | _ => none }
def fnOnLoopsOfRow : OpenClaim := { program := "ytenmgiocbdabdaa", sum := "2e324e1767798a51d379ead215feecf18e58730fb98319effad18fe803f4a2ba", func := "loop.example/selfmaps/laws.FnOnLoopsOf", spec := "fnOnLoopsOf", unfollowed := true, recurses := true, apart := false }
def FnOnLoopsOfSaid : Prop := fnOnLoopsOfRow.holds Try.pinned (OpenSpec.ofChange fnOnLoopsOfSpec)

/-- ITS FALSE NEIGHBOUR: 'it returns false'. Refute it at one input. -/
def fnOnLoopsOfWrong : ChangeSpec := { name := "fnOnLoopsOf", fn := fun _ => fun
  | [d] => { results := [.lit (.bool false)], args := [d] }
  | _ => none }
def FnOnLoopsOfWrongFalsely : Prop := fnOnLoopsOfRow.holds Try.pinned (OpenSpec.ofChange fnOnLoopsOfWrong)

/-- 'laws.FnSettledMaps': WHATEVER THE INPUT: true; the input reads as it did. -/
def fnSettledMapsSpec : ChangeSpec := { name := "fnSettledMaps", fn := fun _ => fun
  | [d] => { results := [.lit (.bool true)], args := [d] }
  | _ => none }
def fnSettledMapsRow : OpenClaim := { program := "ytenmgiocbdabdaa", sum := "2e324e1767798a51d379ead215feecf18e58730fb98319effad18fe803f4a2ba", func := "loop.example/selfmaps/laws.FnSettledMaps", spec := "fnSettledMaps", unfollowed := true, recurses := true, apart := false }
def FnSettledMapsSaid : Prop := fnSettledMapsRow.holds Try.pinned (OpenSpec.ofChange fnSettledMapsSpec)

/-- ITS FALSE NEIGHBOUR: 'it returns false'. Refute it at one input. -/
def fnSettledMapsWrong : ChangeSpec := { name := "fnSettledMaps", fn := fun _ => fun
  | [d] => { results := [.lit (.bool false)], args := [d] }
  | _ => none }
def FnSettledMapsWrongFalsely : Prop := fnSettledMapsRow.holds Try.pinned (OpenSpec.ofChange fnSettledMapsWrong)

/-- 'laws.FnImagesOf': WHATEVER THE INPUT: true; the input reads as it did. -/
def fnImagesOfSpec : ChangeSpec := { name := "fnImagesOf", fn := fun _ => fun
  | [d] => { results := [.lit (.bool true)], args := [d] }
  | _ => none }
def fnImagesOfRow : OpenClaim := { program := "ytenmgiocbdabdaa", sum := "2e324e1767798a51d379ead215feecf18e58730fb98319effad18fe803f4a2ba", func := "loop.example/selfmaps/laws.FnImagesOf", spec := "fnImagesOf", unfollowed := true, recurses := true, apart := false }
def FnImagesOfSaid : Prop := fnImagesOfRow.holds Try.pinned (OpenSpec.ofChange fnImagesOfSpec)

/-- ITS FALSE NEIGHBOUR: 'it returns false'. Refute it at one input. -/
def fnImagesOfWrong : ChangeSpec := { name := "fnImagesOf", fn := fun _ => fun
  | [d] => { results := [.lit (.bool false)], args := [d] }
  | _ => none }
def FnImagesOfWrongFalsely : Prop := fnImagesOfRow.holds Try.pinned (OpenSpec.ofChange fnImagesOfWrong)

/-- 'laws.FnOneLotOf': WHATEVER THE INPUT: true; the input reads as it did. -/
def fnOneLotOfSpec : ChangeSpec := { name := "fnOneLotOf", fn := fun _ => fun
  | [d] => { results := [.lit (.bool true)], args := [d] }
  | _ => none }
def fnOneLotOfRow : OpenClaim := { program := "ytenmgiocbdabdaa", sum := "2e324e1767798a51d379ead215feecf18e58730fb98319effad18fe803f4a2ba", func := "loop.example/selfmaps/laws.FnOneLotOf", spec := "fnOneLotOf", unfollowed := true, recurses := true, apart := false }
def FnOneLotOfSaid : Prop := fnOneLotOfRow.holds Try.pinned (OpenSpec.ofChange fnOneLotOfSpec)

/-- ITS FALSE NEIGHBOUR: 'it returns false'. Refute it at one input. -/
def fnOneLotOfWrong : ChangeSpec := { name := "fnOneLotOf", fn := fun _ => fun
  | [d] => { results := [.lit (.bool false)], args := [d] }
  | _ => none }
def FnOneLotOfWrongFalsely : Prop := fnOneLotOfRow.holds Try.pinned (OpenSpec.ofChange fnOneLotOfWrong)

/-- 'laws.FnWithOk': WHATEVER THE INPUT: true; the input reads as it did. -/
def fnWithOkSpec : ChangeSpec := { name := "fnWithOk", fn := fun _ => fun
  | [d] => { results := [.lit (.bool true)], args := [d] }
  | _ => none }
def fnWithOkRow : OpenClaim := { program := "ytenmgiocbdabdaa", sum := "2e324e1767798a51d379ead215feecf18e58730fb98319effad18fe803f4a2ba", func := "loop.example/selfmaps/laws.FnWithOk", spec := "fnWithOk", recurses := true, apart := false }
def FnWithOkSaid : Prop := fnWithOkRow.holds Try.pinned (OpenSpec.ofChange fnWithOkSpec)

/-- ITS FALSE NEIGHBOUR: 'it returns false'. Refute it at one input. -/
def fnWithOkWrong : ChangeSpec := { name := "fnWithOk", fn := fun _ => fun
  | [d] => { results := [.lit (.bool false)], args := [d] }
  | _ => none }
def FnWithOkWrongFalsely : Prop := fnWithOkRow.holds Try.pinned (OpenSpec.ofChange fnWithOkWrong)

/-- 'laws.FnExactLoopKinds': WHATEVER THE INPUT: true; the input reads as it did. -/
def fnExactLoopKindsSpec : ChangeSpec := { name := "fnExactLoopKinds", fn := fun _ => fun
  | [d] => { results := [.lit (.bool true)], args := [d] }
  | _ => none }
def fnExactLoopKindsRow : OpenClaim := { program := "ytenmgiocbdabdaa", sum := "2e324e1767798a51d379ead215feecf18e58730fb98319effad18fe803f4a2ba", func := "loop.example/selfmaps/laws.FnExactLoopKinds", spec := "fnExactLoopKinds", apart := false }
def FnExactLoopKindsSaid : Prop := fnExactLoopKindsRow.holds Try.pinned (OpenSpec.ofChange fnExactLoopKindsSpec)

/-- ITS FALSE NEIGHBOUR: 'it returns false'. Refute it at one input. -/
def fnExactLoopKindsWrong : ChangeSpec := { name := "fnExactLoopKinds", fn := fun _ => fun
  | [d] => { results := [.lit (.bool false)], args := [d] }
  | _ => none }
def FnExactLoopKindsWrongFalsely : Prop := fnExactLoopKindsRow.holds Try.pinned (OpenSpec.ofChange fnExactLoopKindsWrong)

/-- 'laws.FnLoopKinds': WHATEVER THE INPUT: true; the input reads as it did. -/
def fnLoopKindsSpec : ChangeSpec := { name := "fnLoopKinds", fn := fun _ => fun
  | [d] => { results := [.lit (.bool true)], args := [d] }
  | _ => none }
def fnLoopKindsRow : OpenClaim := { program := "ytenmgiocbdabdaa", sum := "2e324e1767798a51d379ead215feecf18e58730fb98319effad18fe803f4a2ba", func := "loop.example/selfmaps/laws.FnLoopKinds", spec := "fnLoopKinds", apart := false }
def FnLoopKindsSaid : Prop := fnLoopKindsRow.holds Try.pinned (OpenSpec.ofChange fnLoopKindsSpec)

/-- ITS FALSE NEIGHBOUR: 'it returns false'. Refute it at one input. -/
def fnLoopKindsWrong : ChangeSpec := { name := "fnLoopKinds", fn := fun _ => fun
  | [d] => { results := [.lit (.bool false)], args := [d] }
  | _ => none }
def FnLoopKindsWrongFalsely : Prop := fnLoopKindsRow.holds Try.pinned (OpenSpec.ofChange fnLoopKindsWrong)

/-- 'laws.FnExactOrderOf': WHATEVER THE INPUT: true; the input reads as it did. -/
def fnExactOrderOfSpec : ChangeSpec := { name := "fnExactOrderOf", fn := fun _ => fun
  | [d] => { results := [.lit (.bool true)], args := [d] }
  | _ => none }
def fnExactOrderOfRow : OpenClaim := { program := "ytenmgiocbdabdaa", sum := "2e324e1767798a51d379ead215feecf18e58730fb98319effad18fe803f4a2ba", func := "loop.example/selfmaps/laws.FnExactOrderOf", spec := "fnExactOrderOf", unfollowed := true, recurses := true, apart := false }
def FnExactOrderOfSaid : Prop := fnExactOrderOfRow.holds Try.pinned (OpenSpec.ofChange fnExactOrderOfSpec)

/-- ITS FALSE NEIGHBOUR: 'it returns false'. Refute it at one input. -/
def fnExactOrderOfWrong : ChangeSpec := { name := "fnExactOrderOf", fn := fun _ => fun
  | [d] => { results := [.lit (.bool false)], args := [d] }
  | _ => none }
def FnExactOrderOfWrongFalsely : Prop := fnExactOrderOfRow.holds Try.pinned (OpenSpec.ofChange fnExactOrderOfWrong)

/-- 'laws.FnExactTurnRootOk': WHATEVER THE INPUT: true; the input reads as it did. -/
def fnExactTurnRootOkSpec : ChangeSpec := { name := "fnExactTurnRootOk", fn := fun _ => fun
  | [d] => { results := [.lit (.bool true)], args := [d] }
  | _ => none }
def fnExactTurnRootOkRow : OpenClaim := { program := "ytenmgiocbdabdaa", sum := "2e324e1767798a51d379ead215feecf18e58730fb98319effad18fe803f4a2ba", func := "loop.example/selfmaps/laws.FnExactTurnRootOk", spec := "fnExactTurnRootOk", apart := false }
def FnExactTurnRootOkSaid : Prop := fnExactTurnRootOkRow.holds Try.pinned (OpenSpec.ofChange fnExactTurnRootOkSpec)

/-- ITS FALSE NEIGHBOUR: 'it returns false'. Refute it at one input. -/
def fnExactTurnRootOkWrong : ChangeSpec := { name := "fnExactTurnRootOk", fn := fun _ => fun
  | [d] => { results := [.lit (.bool false)], args := [d] }
  | _ => none }
def FnExactTurnRootOkWrongFalsely : Prop := fnExactTurnRootOkRow.holds Try.pinned (OpenSpec.ofChange fnExactTurnRootOkWrong)

/-- 'laws.FnExactTurnsWith': WHATEVER THE INPUT: true; the input reads as it did. -/
def fnExactTurnsWithSpec : ChangeSpec := { name := "fnExactTurnsWith", fn := fun _ => fun
  | [d] => { results := [.lit (.bool true)], args := [d] }
  | _ => none }
def fnExactTurnsWithRow : OpenClaim := { program := "ytenmgiocbdabdaa", sum := "2e324e1767798a51d379ead215feecf18e58730fb98319effad18fe803f4a2ba", func := "loop.example/selfmaps/laws.FnExactTurnsWith", spec := "fnExactTurnsWith", apart := false }
def FnExactTurnsWithSaid : Prop := fnExactTurnsWithRow.holds Try.pinned (OpenSpec.ofChange fnExactTurnsWithSpec)

/-- ITS FALSE NEIGHBOUR: 'it returns false'. Refute it at one input. -/
def fnExactTurnsWithWrong : ChangeSpec := { name := "fnExactTurnsWith", fn := fun _ => fun
  | [d] => { results := [.lit (.bool false)], args := [d] }
  | _ => none }
def FnExactTurnsWithWrongFalsely : Prop := fnExactTurnsWithRow.holds Try.pinned (OpenSpec.ofChange fnExactTurnsWithWrong)

/-- 'laws.FnExactSettledOf': WHATEVER THE INPUT: true; the input reads as it did. -/
def fnExactSettledOfSpec : ChangeSpec := { name := "fnExactSettledOf", fn := fun _ => fun
  | [d] => { results := [.lit (.bool true)], args := [d] }
  | _ => none }
def fnExactSettledOfRow : OpenClaim := { program := "ytenmgiocbdabdaa", sum := "2e324e1767798a51d379ead215feecf18e58730fb98319effad18fe803f4a2ba", func := "loop.example/selfmaps/laws.FnExactSettledOf", spec := "fnExactSettledOf", unfollowed := true, recurses := true, apart := false }
def FnExactSettledOfSaid : Prop := fnExactSettledOfRow.holds Try.pinned (OpenSpec.ofChange fnExactSettledOfSpec)

/-- ITS FALSE NEIGHBOUR: 'it returns false'. Refute it at one input. -/
def fnExactSettledOfWrong : ChangeSpec := { name := "fnExactSettledOf", fn := fun _ => fun
  | [d] => { results := [.lit (.bool false)], args := [d] }
  | _ => none }
def FnExactSettledOfWrongFalsely : Prop := fnExactSettledOfRow.holds Try.pinned (OpenSpec.ofChange fnExactSettledOfWrong)

/-- 'laws.FnIndexOf': WHATEVER THE INPUT: true; the input reads as it did. -/
def fnIndexOfSpec : ChangeSpec := { name := "fnIndexOf", fn := fun _ => fun
  | [d] => { results := [.lit (.bool true)], args := [d] }
  | _ => none }
def fnIndexOfRow : OpenClaim := { program := "ytenmgiocbdabdaa", sum := "2e324e1767798a51d379ead215feecf18e58730fb98319effad18fe803f4a2ba", func := "loop.example/selfmaps/laws.FnIndexOf", spec := "fnIndexOf", unfollowed := true, recurses := true, apart := false }
def FnIndexOfSaid : Prop := fnIndexOfRow.holds Try.pinned (OpenSpec.ofChange fnIndexOfSpec)

/-- ITS FALSE NEIGHBOUR: 'it returns false'. Refute it at one input. -/
def fnIndexOfWrong : ChangeSpec := { name := "fnIndexOf", fn := fun _ => fun
  | [d] => { results := [.lit (.bool false)], args := [d] }
  | _ => none }
def FnIndexOfWrongFalsely : Prop := fnIndexOfRow.holds Try.pinned (OpenSpec.ofChange fnIndexOfWrong)

/-- 'laws.FnPeriodOf': WHATEVER THE INPUT: true; the input reads as it did. -/
def fnPeriodOfSpec : ChangeSpec := { name := "fnPeriodOf", fn := fun _ => fun
  | [d] => { results := [.lit (.bool true)], args := [d] }
  | _ => none }
def fnPeriodOfRow : OpenClaim := { program := "ytenmgiocbdabdaa", sum := "2e324e1767798a51d379ead215feecf18e58730fb98319effad18fe803f4a2ba", func := "loop.example/selfmaps/laws.FnPeriodOf", spec := "fnPeriodOf", unfollowed := true, recurses := true, apart := false }
def FnPeriodOfSaid : Prop := fnPeriodOfRow.holds Try.pinned (OpenSpec.ofChange fnPeriodOfSpec)

/-- ITS FALSE NEIGHBOUR: 'it returns false'. Refute it at one input. -/
def fnPeriodOfWrong : ChangeSpec := { name := "fnPeriodOf", fn := fun _ => fun
  | [d] => { results := [.lit (.bool false)], args := [d] }
  | _ => none }
def FnPeriodOfWrongFalsely : Prop := fnPeriodOfRow.holds Try.pinned (OpenSpec.ofChange fnPeriodOfWrong)

/-- 'laws.FnExactTurnRootOf': WHATEVER THE INPUT: true; the input reads as it did. -/
def fnExactTurnRootOfSpec : ChangeSpec := { name := "fnExactTurnRootOf", fn := fun _ => fun
  | [d] => { results := [.lit (.bool true)], args := [d] }
  | _ => none }
def fnExactTurnRootOfRow : OpenClaim := { program := "ytenmgiocbdabdaa", sum := "2e324e1767798a51d379ead215feecf18e58730fb98319effad18fe803f4a2ba", func := "loop.example/selfmaps/laws.FnExactTurnRootOf", spec := "fnExactTurnRootOf", apart := false }
def FnExactTurnRootOfSaid : Prop := fnExactTurnRootOfRow.holds Try.pinned (OpenSpec.ofChange fnExactTurnRootOfSpec)

/-- ITS FALSE NEIGHBOUR: 'it returns false'. Refute it at one input. -/
def fnExactTurnRootOfWrong : ChangeSpec := { name := "fnExactTurnRootOf", fn := fun _ => fun
  | [d] => { results := [.lit (.bool false)], args := [d] }
  | _ => none }
def FnExactTurnRootOfWrongFalsely : Prop := fnExactTurnRootOfRow.holds Try.pinned (OpenSpec.ofChange fnExactTurnRootOfWrong)

/-- 'laws.FnOrderOf': WHATEVER THE INPUT: true; the input reads as it did. -/
def fnOrderOfSpec : ChangeSpec := { name := "fnOrderOf", fn := fun _ => fun
  | [d] => { results := [.lit (.bool true)], args := [d] }
  | _ => none }
def fnOrderOfRow : OpenClaim := { program := "ytenmgiocbdabdaa", sum := "2e324e1767798a51d379ead215feecf18e58730fb98319effad18fe803f4a2ba", func := "loop.example/selfmaps/laws.FnOrderOf", spec := "fnOrderOf", unfollowed := true, recurses := true, apart := false }
def FnOrderOfSaid : Prop := fnOrderOfRow.holds Try.pinned (OpenSpec.ofChange fnOrderOfSpec)

/-- ITS FALSE NEIGHBOUR: 'it returns false'. Refute it at one input. -/
def fnOrderOfWrong : ChangeSpec := { name := "fnOrderOf", fn := fun _ => fun
  | [d] => { results := [.lit (.bool false)], args := [d] }
  | _ => none }
def FnOrderOfWrongFalsely : Prop := fnOrderOfRow.holds Try.pinned (OpenSpec.ofChange fnOrderOfWrong)

/-- 'laws.FnSettledOf': WHATEVER THE INPUT: true; the input reads as it did. -/
def fnSettledOfSpec : ChangeSpec := { name := "fnSettledOf", fn := fun _ => fun
  | [d] => { results := [.lit (.bool true)], args := [d] }
  | _ => none }
def fnSettledOfRow : OpenClaim := { program := "ytenmgiocbdabdaa", sum := "2e324e1767798a51d379ead215feecf18e58730fb98319effad18fe803f4a2ba", func := "loop.example/selfmaps/laws.FnSettledOf", spec := "fnSettledOf", unfollowed := true, recurses := true, apart := false }
def FnSettledOfSaid : Prop := fnSettledOfRow.holds Try.pinned (OpenSpec.ofChange fnSettledOfSpec)

/-- ITS FALSE NEIGHBOUR: 'it returns false'. Refute it at one input. -/
def fnSettledOfWrong : ChangeSpec := { name := "fnSettledOf", fn := fun _ => fun
  | [d] => { results := [.lit (.bool false)], args := [d] }
  | _ => none }
def FnSettledOfWrongFalsely : Prop := fnSettledOfRow.holds Try.pinned (OpenSpec.ofChange fnSettledOfWrong)

/-- 'laws.FnTurnRootOf': WHATEVER THE INPUT: true; the input reads as it did. -/
def fnTurnRootOfSpec : ChangeSpec := { name := "fnTurnRootOf", fn := fun _ => fun
  | [d] => { results := [.lit (.bool true)], args := [d] }
  | _ => none }
def fnTurnRootOfRow : OpenClaim := { program := "ytenmgiocbdabdaa", sum := "2e324e1767798a51d379ead215feecf18e58730fb98319effad18fe803f4a2ba", func := "loop.example/selfmaps/laws.FnTurnRootOf", spec := "fnTurnRootOf", apart := false }
def FnTurnRootOfSaid : Prop := fnTurnRootOfRow.holds Try.pinned (OpenSpec.ofChange fnTurnRootOfSpec)

/-- ITS FALSE NEIGHBOUR: 'it returns false'. Refute it at one input. -/
def fnTurnRootOfWrong : ChangeSpec := { name := "fnTurnRootOf", fn := fun _ => fun
  | [d] => { results := [.lit (.bool false)], args := [d] }
  | _ => none }
def FnTurnRootOfWrongFalsely : Prop := fnTurnRootOfRow.holds Try.pinned (OpenSpec.ofChange fnTurnRootOfWrong)

/-- 'laws.FnExactTreeText': WHATEVER THE INPUT: true; the input reads as it did. -/
def fnExactTreeTextSpec : ChangeSpec := { name := "fnExactTreeText", fn := fun _ => fun
  | [d1, d2] => { results := [.lit (.bool true)], args := [d1, d2] }
  | _ => none }
def fnExactTreeTextRow : OpenClaim := { program := "ytenmgiocbdabdaa", sum := "2e324e1767798a51d379ead215feecf18e58730fb98319effad18fe803f4a2ba", func := "loop.example/selfmaps/laws.FnExactTreeText", spec := "fnExactTreeText", inPlace := ["internal/abi.NoEscape", "internal/bytealg.MakeNoZero"], unfollowed := true, recurses := true, apart := false }
def FnExactTreeTextSaid : Prop := fnExactTreeTextRow.holds Try.pinned (OpenSpec.ofChange fnExactTreeTextSpec)

/-- ITS FALSE NEIGHBOUR: 'it returns false'. Refute it at one input. -/
def fnExactTreeTextWrong : ChangeSpec := { name := "fnExactTreeText", fn := fun _ => fun
  | [d1, d2] => { results := [.lit (.bool false)], args := [d1, d2] }
  | _ => none }
def FnExactTreeTextWrongFalsely : Prop := fnExactTreeTextRow.holds Try.pinned (OpenSpec.ofChange fnExactTreeTextWrong)

/-- 'laws.FnTreeText': WHATEVER THE INPUT: true; the input reads as it did. -/
def fnTreeTextSpec : ChangeSpec := { name := "fnTreeText", fn := fun _ => fun
  | [d] => { results := [.lit (.bool true)], args := [d] }
  | _ => none }
def fnTreeTextRow : OpenClaim := { program := "ytenmgiocbdabdaa", sum := "2e324e1767798a51d379ead215feecf18e58730fb98319effad18fe803f4a2ba", func := "loop.example/selfmaps/laws.FnTreeText", spec := "fnTreeText", inPlace := ["internal/abi.NoEscape", "internal/bytealg.MakeNoZero"], unfollowed := true, recurses := true, apart := false }
def FnTreeTextSaid : Prop := fnTreeTextRow.holds Try.pinned (OpenSpec.ofChange fnTreeTextSpec)

/-- ITS FALSE NEIGHBOUR: 'it returns false'. Refute it at one input. -/
def fnTreeTextWrong : ChangeSpec := { name := "fnTreeText", fn := fun _ => fun
  | [d] => { results := [.lit (.bool false)], args := [d] }
  | _ => none }
def FnTreeTextWrongFalsely : Prop := fnTreeTextRow.holds Try.pinned (OpenSpec.ofChange fnTreeTextWrong)

/-- 'laws.FnExactLoopText': WHATEVER THE INPUT: true; the input reads as it did. -/
def fnExactLoopTextSpec : ChangeSpec := { name := "fnExactLoopText", fn := fun _ => fun
  | [d1, d2] => { results := [.lit (.bool true)], args := [d1, d2] }
  | _ => none }
def fnExactLoopTextRow : OpenClaim := { program := "ytenmgiocbdabdaa", sum := "2e324e1767798a51d379ead215feecf18e58730fb98319effad18fe803f4a2ba", func := "loop.example/selfmaps/laws.FnExactLoopText", spec := "fnExactLoopText", inPlace := ["internal/abi.NoEscape", "internal/bytealg.MakeNoZero"], unfollowed := true, recurses := true, apart := false }
def FnExactLoopTextSaid : Prop := fnExactLoopTextRow.holds Try.pinned (OpenSpec.ofChange fnExactLoopTextSpec)

/-- ITS FALSE NEIGHBOUR: 'it returns false'. Refute it at one input. -/
def fnExactLoopTextWrong : ChangeSpec := { name := "fnExactLoopText", fn := fun _ => fun
  | [d1, d2] => { results := [.lit (.bool false)], args := [d1, d2] }
  | _ => none }
def FnExactLoopTextWrongFalsely : Prop := fnExactLoopTextRow.holds Try.pinned (OpenSpec.ofChange fnExactLoopTextWrong)

/-- 'laws.FnExactShapeText': WHATEVER THE INPUT: true; the input reads as it did. -/
def fnExactShapeTextSpec : ChangeSpec := { name := "fnExactShapeText", fn := fun _ => fun
  | [d] => { results := [.lit (.bool true)], args := [d] }
  | _ => none }
def fnExactShapeTextRow : OpenClaim := { program := "ytenmgiocbdabdaa", sum := "2e324e1767798a51d379ead215feecf18e58730fb98319effad18fe803f4a2ba", func := "loop.example/selfmaps/laws.FnExactShapeText", spec := "fnExactShapeText", inPlace := ["internal/abi.NoEscape", "internal/bytealg.MakeNoZero"], unfollowed := true, recurses := true, apart := false }
def FnExactShapeTextSaid : Prop := fnExactShapeTextRow.holds Try.pinned (OpenSpec.ofChange fnExactShapeTextSpec)

/-- ITS FALSE NEIGHBOUR: 'it returns false'. Refute it at one input. -/
def fnExactShapeTextWrong : ChangeSpec := { name := "fnExactShapeText", fn := fun _ => fun
  | [d] => { results := [.lit (.bool false)], args := [d] }
  | _ => none }
def FnExactShapeTextWrongFalsely : Prop := fnExactShapeTextRow.holds Try.pinned (OpenSpec.ofChange fnExactShapeTextWrong)

/-- 'laws.FnLoopText': WHATEVER THE INPUT: true; the input reads as it did. -/
def fnLoopTextSpec : ChangeSpec := { name := "fnLoopText", fn := fun _ => fun
  | [d] => { results := [.lit (.bool true)], args := [d] }
  | _ => none }
def fnLoopTextRow : OpenClaim := { program := "ytenmgiocbdabdaa", sum := "2e324e1767798a51d379ead215feecf18e58730fb98319effad18fe803f4a2ba", func := "loop.example/selfmaps/laws.FnLoopText", spec := "fnLoopText", inPlace := ["internal/abi.NoEscape", "internal/bytealg.MakeNoZero"], unfollowed := true, recurses := true, apart := false }
def FnLoopTextSaid : Prop := fnLoopTextRow.holds Try.pinned (OpenSpec.ofChange fnLoopTextSpec)

/-- ITS FALSE NEIGHBOUR: 'it returns false'. Refute it at one input. -/
def fnLoopTextWrong : ChangeSpec := { name := "fnLoopText", fn := fun _ => fun
  | [d] => { results := [.lit (.bool false)], args := [d] }
  | _ => none }
def FnLoopTextWrongFalsely : Prop := fnLoopTextRow.holds Try.pinned (OpenSpec.ofChange fnLoopTextWrong)

/-- 'laws.FnExactSameShape': WHATEVER THE INPUT: true; the input reads as it did. -/
def fnExactSameShapeSpec : ChangeSpec := { name := "fnExactSameShape", fn := fun _ => fun
  | [d1, d2] => { results := [.lit (.bool true)], args := [d1, d2] }
  | _ => none }
def fnExactSameShapeRow : OpenClaim := { program := "ytenmgiocbdabdaa", sum := "2e324e1767798a51d379ead215feecf18e58730fb98319effad18fe803f4a2ba", func := "loop.example/selfmaps/laws.FnExactSameShape", spec := "fnExactSameShape", inPlace := ["internal/abi.NoEscape", "internal/bytealg.MakeNoZero"], unfollowed := true, recurses := true, apart := false }
def FnExactSameShapeSaid : Prop := fnExactSameShapeRow.holds Try.pinned (OpenSpec.ofChange fnExactSameShapeSpec)

/-- ITS FALSE NEIGHBOUR: 'it returns false'. Refute it at one input. -/
def fnExactSameShapeWrong : ChangeSpec := { name := "fnExactSameShape", fn := fun _ => fun
  | [d1, d2] => { results := [.lit (.bool false)], args := [d1, d2] }
  | _ => none }
def FnExactSameShapeWrongFalsely : Prop := fnExactSameShapeRow.holds Try.pinned (OpenSpec.ofChange fnExactSameShapeWrong)

/- THE SECOND FORM. 'bulk': how many values and letters a reading holds, each counted each time it is reached (what is shared counts as often as it is met; a slice's spare places count too). A statement '..UptoSaid' is the law's where the arguments, and the package variables that the reading takes, are together of bulk at most 1048576: NARROWER than '..Said'. Prove '..Said' where nothing that the law and all that it calls make is longer than what came in: it says more and counts as full. Else prove '..UptoSaid'. A law counts once. -/
mutual
def uptoBulk {H : Type} : DataW H → Nat
  | .lit (.string bytes) => bytes.length + 1
  | .lit _ => 1
  | .nil => 1
  | .ptr d => uptoBulk d + 1
  | .slice elems spare => uptoBulkAll elems + uptoBulkAll spare + 1
  | .agg parts => uptoBulkAll parts + 1
  | .iface _ d => uptoBulk d + 1
  | .map entries => uptoBulkEntries entries + 1
  | .held _ => 1
def uptoBulkAll {H : Type} : List (DataW H) → Nat
  | [] => 0
  | d :: r => uptoBulk d + uptoBulkAll r
def uptoBulkEntries {H : Type} : List (Lit × DataW H) → Nat
  | [] => 0
  | x :: r => uptoBulkEntry x + uptoBulkEntries r
def uptoBulkEntry {H : Type} : Lit × DataW H → Nat
  | (.string bytes, d) => bytes.length + uptoBulk d + 1
  | (_, d) => uptoBulk d + 1
 end
def uptoSmall : (H : Type) → List (DataW H) → Bool := fun _ ds => decide (uptoBulkAll ds ≤ 1048576)
def OpenSpec.upto (s : _root_.Go.ChangeSpec) : _root_.Go.OpenSpec := { _root_.Go.OpenSpec.ofChange s with cond := some uptoSmall }

/-- 'laws.FnNamedOf', WHERE WHAT IT READS IS OF BULK AT MOST 1048576: true; the input reads as it did. -/
def fnNamedOfUptoRow : OpenClaim := { program := "ytenmgiocbdabdaa", sum := "2e324e1767798a51d379ead215feecf18e58730fb98319effad18fe803f4a2ba", func := "loop.example/selfmaps/laws.FnNamedOf", spec := "fnNamedOf", inPlace := ["internal/abi.NoEscape", "internal/bytealg.MakeNoZero"], unfollowed := true, recurses := true, apart := false, narrowed := true }
def FnNamedOfUptoSaid : Prop := fnNamedOfUptoRow.holds Try.pinned (OpenSpec.upto fnNamedOfSpec)

/-- 'laws.FnShapeText', WHERE WHAT IT READS IS OF BULK AT MOST 1048576: true; the input reads as it did. -/
def fnShapeTextUptoRow : OpenClaim := { program := "ytenmgiocbdabdaa", sum := "2e324e1767798a51d379ead215feecf18e58730fb98319effad18fe803f4a2ba", func := "loop.example/selfmaps/laws.FnShapeText", spec := "fnShapeText", inPlace := ["internal/abi.NoEscape", "internal/bytealg.MakeNoZero"], unfollowed := true, recurses := true, apart := false, narrowed := true }
def FnShapeTextUptoSaid : Prop := fnShapeTextUptoRow.holds Try.pinned (OpenSpec.upto fnShapeTextSpec)

/-- 'laws.FnExactWithOk', WHERE WHAT IT READS IS OF BULK AT MOST 1048576: true; the input reads as it did. -/
def fnExactWithOkUptoRow : OpenClaim := { program := "ytenmgiocbdabdaa", sum := "2e324e1767798a51d379ead215feecf18e58730fb98319effad18fe803f4a2ba", func := "loop.example/selfmaps/laws.FnExactWithOk", spec := "fnExactWithOk", apart := false, narrowed := true }
def FnExactWithOkUptoSaid : Prop := fnExactWithOkUptoRow.holds Try.pinned (OpenSpec.upto fnExactWithOkSpec)

/-- 'laws.FnSameShape', WHERE WHAT IT READS IS OF BULK AT MOST 1048576: true; the input reads as it did. -/
def fnSameShapeUptoRow : OpenClaim := { program := "ytenmgiocbdabdaa", sum := "2e324e1767798a51d379ead215feecf18e58730fb98319effad18fe803f4a2ba", func := "loop.example/selfmaps/laws.FnSameShape", spec := "fnSameShape", inPlace := ["internal/abi.NoEscape", "internal/bytealg.MakeNoZero"], unfollowed := true, recurses := true, apart := false, narrowed := true }
def FnSameShapeUptoSaid : Prop := fnSameShapeUptoRow.holds Try.pinned (OpenSpec.upto fnSameShapeSpec)

/-- 'laws.FnExactNamedOf', WHERE WHAT IT READS IS OF BULK AT MOST 1048576: true; the input reads as it did. -/
def fnExactNamedOfUptoRow : OpenClaim := { program := "ytenmgiocbdabdaa", sum := "2e324e1767798a51d379ead215feecf18e58730fb98319effad18fe803f4a2ba", func := "loop.example/selfmaps/laws.FnExactNamedOf", spec := "fnExactNamedOf", apart := false, narrowed := true }
def FnExactNamedOfUptoSaid : Prop := fnExactNamedOfUptoRow.holds Try.pinned (OpenSpec.upto fnExactNamedOfSpec)

/-- 'laws.FnOnLoopsOf', WHERE WHAT IT READS IS OF BULK AT MOST 1048576: true; the input reads as it did. -/
def fnOnLoopsOfUptoRow : OpenClaim := { program := "ytenmgiocbdabdaa", sum := "2e324e1767798a51d379ead215feecf18e58730fb98319effad18fe803f4a2ba", func := "loop.example/selfmaps/laws.FnOnLoopsOf", spec := "fnOnLoopsOf", unfollowed := true, recurses := true, apart := false, narrowed := true }
def FnOnLoopsOfUptoSaid : Prop := fnOnLoopsOfUptoRow.holds Try.pinned (OpenSpec.upto fnOnLoopsOfSpec)

/-- 'laws.FnSettledMaps', WHERE WHAT IT READS IS OF BULK AT MOST 1048576: true; the input reads as it did. -/
def fnSettledMapsUptoRow : OpenClaim := { program := "ytenmgiocbdabdaa", sum := "2e324e1767798a51d379ead215feecf18e58730fb98319effad18fe803f4a2ba", func := "loop.example/selfmaps/laws.FnSettledMaps", spec := "fnSettledMaps", unfollowed := true, recurses := true, apart := false, narrowed := true }
def FnSettledMapsUptoSaid : Prop := fnSettledMapsUptoRow.holds Try.pinned (OpenSpec.upto fnSettledMapsSpec)

/-- 'laws.FnImagesOf', WHERE WHAT IT READS IS OF BULK AT MOST 1048576: true; the input reads as it did. -/
def fnImagesOfUptoRow : OpenClaim := { program := "ytenmgiocbdabdaa", sum := "2e324e1767798a51d379ead215feecf18e58730fb98319effad18fe803f4a2ba", func := "loop.example/selfmaps/laws.FnImagesOf", spec := "fnImagesOf", unfollowed := true, recurses := true, apart := false, narrowed := true }
def FnImagesOfUptoSaid : Prop := fnImagesOfUptoRow.holds Try.pinned (OpenSpec.upto fnImagesOfSpec)

/-- 'laws.FnOneLotOf', WHERE WHAT IT READS IS OF BULK AT MOST 1048576: true; the input reads as it did. -/
def fnOneLotOfUptoRow : OpenClaim := { program := "ytenmgiocbdabdaa", sum := "2e324e1767798a51d379ead215feecf18e58730fb98319effad18fe803f4a2ba", func := "loop.example/selfmaps/laws.FnOneLotOf", spec := "fnOneLotOf", unfollowed := true, recurses := true, apart := false, narrowed := true }
def FnOneLotOfUptoSaid : Prop := fnOneLotOfUptoRow.holds Try.pinned (OpenSpec.upto fnOneLotOfSpec)

/-- 'laws.FnWithOk', WHERE WHAT IT READS IS OF BULK AT MOST 1048576: true; the input reads as it did. -/
def fnWithOkUptoRow : OpenClaim := { program := "ytenmgiocbdabdaa", sum := "2e324e1767798a51d379ead215feecf18e58730fb98319effad18fe803f4a2ba", func := "loop.example/selfmaps/laws.FnWithOk", spec := "fnWithOk", recurses := true, apart := false, narrowed := true }
def FnWithOkUptoSaid : Prop := fnWithOkUptoRow.holds Try.pinned (OpenSpec.upto fnWithOkSpec)

/-- 'laws.FnExactLoopKinds', WHERE WHAT IT READS IS OF BULK AT MOST 1048576: true; the input reads as it did. -/
def fnExactLoopKindsUptoRow : OpenClaim := { program := "ytenmgiocbdabdaa", sum := "2e324e1767798a51d379ead215feecf18e58730fb98319effad18fe803f4a2ba", func := "loop.example/selfmaps/laws.FnExactLoopKinds", spec := "fnExactLoopKinds", apart := false, narrowed := true }
def FnExactLoopKindsUptoSaid : Prop := fnExactLoopKindsUptoRow.holds Try.pinned (OpenSpec.upto fnExactLoopKindsSpec)

/-- 'laws.FnLoopKinds', WHERE WHAT IT READS IS OF BULK AT MOST 1048576: true; the input reads as it did. -/
def fnLoopKindsUptoRow : OpenClaim := { program := "ytenmgiocbdabdaa", sum := "2e324e1767798a51d379ead215feecf18e58730fb98319effad18fe803f4a2ba", func := "loop.example/selfmaps/laws.FnLoopKinds", spec := "fnLoopKinds", apart := false, narrowed := true }
def FnLoopKindsUptoSaid : Prop := fnLoopKindsUptoRow.holds Try.pinned (OpenSpec.upto fnLoopKindsSpec)

/-- 'laws.FnExactOrderOf', WHERE WHAT IT READS IS OF BULK AT MOST 1048576: true; the input reads as it did. -/
def fnExactOrderOfUptoRow : OpenClaim := { program := "ytenmgiocbdabdaa", sum := "2e324e1767798a51d379ead215feecf18e58730fb98319effad18fe803f4a2ba", func := "loop.example/selfmaps/laws.FnExactOrderOf", spec := "fnExactOrderOf", unfollowed := true, recurses := true, apart := false, narrowed := true }
def FnExactOrderOfUptoSaid : Prop := fnExactOrderOfUptoRow.holds Try.pinned (OpenSpec.upto fnExactOrderOfSpec)

/-- 'laws.FnExactTurnRootOk', WHERE WHAT IT READS IS OF BULK AT MOST 1048576: true; the input reads as it did. -/
def fnExactTurnRootOkUptoRow : OpenClaim := { program := "ytenmgiocbdabdaa", sum := "2e324e1767798a51d379ead215feecf18e58730fb98319effad18fe803f4a2ba", func := "loop.example/selfmaps/laws.FnExactTurnRootOk", spec := "fnExactTurnRootOk", apart := false, narrowed := true }
def FnExactTurnRootOkUptoSaid : Prop := fnExactTurnRootOkUptoRow.holds Try.pinned (OpenSpec.upto fnExactTurnRootOkSpec)

/-- 'laws.FnExactTurnsWith', WHERE WHAT IT READS IS OF BULK AT MOST 1048576: true; the input reads as it did. -/
def fnExactTurnsWithUptoRow : OpenClaim := { program := "ytenmgiocbdabdaa", sum := "2e324e1767798a51d379ead215feecf18e58730fb98319effad18fe803f4a2ba", func := "loop.example/selfmaps/laws.FnExactTurnsWith", spec := "fnExactTurnsWith", apart := false, narrowed := true }
def FnExactTurnsWithUptoSaid : Prop := fnExactTurnsWithUptoRow.holds Try.pinned (OpenSpec.upto fnExactTurnsWithSpec)

/-- 'laws.FnExactSettledOf', WHERE WHAT IT READS IS OF BULK AT MOST 1048576: true; the input reads as it did. -/
def fnExactSettledOfUptoRow : OpenClaim := { program := "ytenmgiocbdabdaa", sum := "2e324e1767798a51d379ead215feecf18e58730fb98319effad18fe803f4a2ba", func := "loop.example/selfmaps/laws.FnExactSettledOf", spec := "fnExactSettledOf", unfollowed := true, recurses := true, apart := false, narrowed := true }
def FnExactSettledOfUptoSaid : Prop := fnExactSettledOfUptoRow.holds Try.pinned (OpenSpec.upto fnExactSettledOfSpec)

/-- 'laws.FnIndexOf', WHERE WHAT IT READS IS OF BULK AT MOST 1048576: true; the input reads as it did. -/
def fnIndexOfUptoRow : OpenClaim := { program := "ytenmgiocbdabdaa", sum := "2e324e1767798a51d379ead215feecf18e58730fb98319effad18fe803f4a2ba", func := "loop.example/selfmaps/laws.FnIndexOf", spec := "fnIndexOf", unfollowed := true, recurses := true, apart := false, narrowed := true }
def FnIndexOfUptoSaid : Prop := fnIndexOfUptoRow.holds Try.pinned (OpenSpec.upto fnIndexOfSpec)

/-- 'laws.FnPeriodOf', WHERE WHAT IT READS IS OF BULK AT MOST 1048576: true; the input reads as it did. -/
def fnPeriodOfUptoRow : OpenClaim := { program := "ytenmgiocbdabdaa", sum := "2e324e1767798a51d379ead215feecf18e58730fb98319effad18fe803f4a2ba", func := "loop.example/selfmaps/laws.FnPeriodOf", spec := "fnPeriodOf", unfollowed := true, recurses := true, apart := false, narrowed := true }
def FnPeriodOfUptoSaid : Prop := fnPeriodOfUptoRow.holds Try.pinned (OpenSpec.upto fnPeriodOfSpec)

/-- 'laws.FnExactTurnRootOf', WHERE WHAT IT READS IS OF BULK AT MOST 1048576: true; the input reads as it did. -/
def fnExactTurnRootOfUptoRow : OpenClaim := { program := "ytenmgiocbdabdaa", sum := "2e324e1767798a51d379ead215feecf18e58730fb98319effad18fe803f4a2ba", func := "loop.example/selfmaps/laws.FnExactTurnRootOf", spec := "fnExactTurnRootOf", apart := false, narrowed := true }
def FnExactTurnRootOfUptoSaid : Prop := fnExactTurnRootOfUptoRow.holds Try.pinned (OpenSpec.upto fnExactTurnRootOfSpec)

/-- 'laws.FnOrderOf', WHERE WHAT IT READS IS OF BULK AT MOST 1048576: true; the input reads as it did. -/
def fnOrderOfUptoRow : OpenClaim := { program := "ytenmgiocbdabdaa", sum := "2e324e1767798a51d379ead215feecf18e58730fb98319effad18fe803f4a2ba", func := "loop.example/selfmaps/laws.FnOrderOf", spec := "fnOrderOf", unfollowed := true, recurses := true, apart := false, narrowed := true }
def FnOrderOfUptoSaid : Prop := fnOrderOfUptoRow.holds Try.pinned (OpenSpec.upto fnOrderOfSpec)

/-- 'laws.FnSettledOf', WHERE WHAT IT READS IS OF BULK AT MOST 1048576: true; the input reads as it did. -/
def fnSettledOfUptoRow : OpenClaim := { program := "ytenmgiocbdabdaa", sum := "2e324e1767798a51d379ead215feecf18e58730fb98319effad18fe803f4a2ba", func := "loop.example/selfmaps/laws.FnSettledOf", spec := "fnSettledOf", unfollowed := true, recurses := true, apart := false, narrowed := true }
def FnSettledOfUptoSaid : Prop := fnSettledOfUptoRow.holds Try.pinned (OpenSpec.upto fnSettledOfSpec)

/-- 'laws.FnTurnRootOf', WHERE WHAT IT READS IS OF BULK AT MOST 1048576: true; the input reads as it did. -/
def fnTurnRootOfUptoRow : OpenClaim := { program := "ytenmgiocbdabdaa", sum := "2e324e1767798a51d379ead215feecf18e58730fb98319effad18fe803f4a2ba", func := "loop.example/selfmaps/laws.FnTurnRootOf", spec := "fnTurnRootOf", apart := false, narrowed := true }
def FnTurnRootOfUptoSaid : Prop := fnTurnRootOfUptoRow.holds Try.pinned (OpenSpec.upto fnTurnRootOfSpec)

/-- 'laws.FnExactTreeText', WHERE WHAT IT READS IS OF BULK AT MOST 1048576: true; the input reads as it did. -/
def fnExactTreeTextUptoRow : OpenClaim := { program := "ytenmgiocbdabdaa", sum := "2e324e1767798a51d379ead215feecf18e58730fb98319effad18fe803f4a2ba", func := "loop.example/selfmaps/laws.FnExactTreeText", spec := "fnExactTreeText", inPlace := ["internal/abi.NoEscape", "internal/bytealg.MakeNoZero"], unfollowed := true, recurses := true, apart := false, narrowed := true }
def FnExactTreeTextUptoSaid : Prop := fnExactTreeTextUptoRow.holds Try.pinned (OpenSpec.upto fnExactTreeTextSpec)

/-- 'laws.FnTreeText', WHERE WHAT IT READS IS OF BULK AT MOST 1048576: true; the input reads as it did. -/
def fnTreeTextUptoRow : OpenClaim := { program := "ytenmgiocbdabdaa", sum := "2e324e1767798a51d379ead215feecf18e58730fb98319effad18fe803f4a2ba", func := "loop.example/selfmaps/laws.FnTreeText", spec := "fnTreeText", inPlace := ["internal/abi.NoEscape", "internal/bytealg.MakeNoZero"], unfollowed := true, recurses := true, apart := false, narrowed := true }
def FnTreeTextUptoSaid : Prop := fnTreeTextUptoRow.holds Try.pinned (OpenSpec.upto fnTreeTextSpec)

/-- 'laws.FnExactLoopText', WHERE WHAT IT READS IS OF BULK AT MOST 1048576: true; the input reads as it did. -/
def fnExactLoopTextUptoRow : OpenClaim := { program := "ytenmgiocbdabdaa", sum := "2e324e1767798a51d379ead215feecf18e58730fb98319effad18fe803f4a2ba", func := "loop.example/selfmaps/laws.FnExactLoopText", spec := "fnExactLoopText", inPlace := ["internal/abi.NoEscape", "internal/bytealg.MakeNoZero"], unfollowed := true, recurses := true, apart := false, narrowed := true }
def FnExactLoopTextUptoSaid : Prop := fnExactLoopTextUptoRow.holds Try.pinned (OpenSpec.upto fnExactLoopTextSpec)

/-- 'laws.FnExactShapeText', WHERE WHAT IT READS IS OF BULK AT MOST 1048576: true; the input reads as it did. -/
def fnExactShapeTextUptoRow : OpenClaim := { program := "ytenmgiocbdabdaa", sum := "2e324e1767798a51d379ead215feecf18e58730fb98319effad18fe803f4a2ba", func := "loop.example/selfmaps/laws.FnExactShapeText", spec := "fnExactShapeText", inPlace := ["internal/abi.NoEscape", "internal/bytealg.MakeNoZero"], unfollowed := true, recurses := true, apart := false, narrowed := true }
def FnExactShapeTextUptoSaid : Prop := fnExactShapeTextUptoRow.holds Try.pinned (OpenSpec.upto fnExactShapeTextSpec)

/-- 'laws.FnLoopText', WHERE WHAT IT READS IS OF BULK AT MOST 1048576: true; the input reads as it did. -/
def fnLoopTextUptoRow : OpenClaim := { program := "ytenmgiocbdabdaa", sum := "2e324e1767798a51d379ead215feecf18e58730fb98319effad18fe803f4a2ba", func := "loop.example/selfmaps/laws.FnLoopText", spec := "fnLoopText", inPlace := ["internal/abi.NoEscape", "internal/bytealg.MakeNoZero"], unfollowed := true, recurses := true, apart := false, narrowed := true }
def FnLoopTextUptoSaid : Prop := fnLoopTextUptoRow.holds Try.pinned (OpenSpec.upto fnLoopTextSpec)

/-- 'laws.FnExactSameShape', WHERE WHAT IT READS IS OF BULK AT MOST 1048576: true; the input reads as it did. -/
def fnExactSameShapeUptoRow : OpenClaim := { program := "ytenmgiocbdabdaa", sum := "2e324e1767798a51d379ead215feecf18e58730fb98319effad18fe803f4a2ba", func := "loop.example/selfmaps/laws.FnExactSameShape", spec := "fnExactSameShape", inPlace := ["internal/abi.NoEscape", "internal/bytealg.MakeNoZero"], unfollowed := true, recurses := true, apart := false, narrowed := true }
def FnExactSameShapeUptoSaid : Prop := fnExactSameShapeUptoRow.holds Try.pinned (OpenSpec.upto fnExactSameShapeSpec)

end Rows
end Go.Proofs.Ytenmgiocbdabdaa
