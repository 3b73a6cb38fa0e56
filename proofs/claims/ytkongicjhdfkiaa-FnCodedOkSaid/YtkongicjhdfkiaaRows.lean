/-
  No cell of these rows narrows 'for every input' (looked for: loops, veiled, ifaces, maps, wideKeys, modest, calm, conditions, laid).
  DERIVED. THE GIVEN ROWS OF THIS SEAT. 15 by the template 'for every input the law returns true; each argument reads behind the call as it read before'; 0 by the template 'total and deterministic' (their statements: YtkongicjhdfkiaaTotals.lean).
  GIVEN WITH THE SEED: the statements are not yours to turn. If you find one false, say at which input.
  Laid BY PROGRAM, IN A SANDBOX (cutbox-rows.mjs): the forced cells as the released guide's own fill.sh prints them over the translation ab23426bdb74d064… (all of the seat's roots in one cut). By AI agents, Wed Nov 11 2026. No macro, syntax, notation, axiom, sorry.
-/
import Derived.Test.YtkongicjhdfkiaaChecked
import GoSem.Claim
import GoSem.ClaimJoined
import GoSem.ClaimMapViews
import Derived.JoinedTies
import Derived.KernelRfl
namespace Go.Proofs.Ytkongicjhdfkiaa
/- THE CELL 'sum', in the pinned program and in every row, IS THE sha256 OF THE DUMP (.gsa) THAT YtkongicjhdfkiaaProg.lean LOADS. Nothing in Lean hashes anything: it is a label: what it is worth is what the hold of that sum in a sandbox is worth. -/
noncomputable def Try.pinned : Pinned := { name := "ytkongicjhdfkiaa", sum := "ab23426bdb74d0645a4d52f4d15a8b4ee8a697e4073d1b1b612cf6ede4cfd976", checked := Try.checked }
namespace Rows
def none {H : Type} : Left H := { results := [], args := [] }

/-- 'laws.FnExactPartsOf': WHATEVER THE INPUT: true; the input reads as it did. -/
def fnExactPartsOfSpec : ChangeSpec := { name := "fnExactPartsOf", fn := fun _ => fun
  | [d1, d2] => { results := [.lit (.bool true)], args := [d1, d2] }
  | _ => none }
def fnExactPartsOfRow : OpenClaim := { program := "ytkongicjhdfkiaa", sum := "ab23426bdb74d0645a4d52f4d15a8b4ee8a697e4073d1b1b612cf6ede4cfd976", func := "loop.example/selfmaps/laws.FnExactPartsOf", spec := "fnExactPartsOf", recurses := true, apart := false }
def FnExactPartsOfSaid : Prop := fnExactPartsOfRow.holds Try.pinned (OpenSpec.ofChange fnExactPartsOfSpec)

/-- ITS FALSE NEIGHBOUR: 'it returns false'. Refute it at one input. -/
def fnExactPartsOfWrong : ChangeSpec := { name := "fnExactPartsOf", fn := fun _ => fun
  | [d1, d2] => { results := [.lit (.bool false)], args := [d1, d2] }
  | _ => none }
def FnExactPartsOfWrongFalsely : Prop := fnExactPartsOfRow.holds Try.pinned (OpenSpec.ofChange fnExactPartsOfWrong)

/-- 'laws.FnExactChosenOf': WHATEVER THE INPUT: true; the input reads as it did. -/
def fnExactChosenOfSpec : ChangeSpec := { name := "fnExactChosenOf", fn := fun _ => fun
  | [d1, d2] => { results := [.lit (.bool true)], args := [d1, d2] }
  | _ => none }
def fnExactChosenOfRow : OpenClaim := { program := "ytkongicjhdfkiaa", sum := "ab23426bdb74d0645a4d52f4d15a8b4ee8a697e4073d1b1b612cf6ede4cfd976", func := "loop.example/selfmaps/laws.FnExactChosenOf", spec := "fnExactChosenOf", recurses := true, apart := false }
def FnExactChosenOfSaid : Prop := fnExactChosenOfRow.holds Try.pinned (OpenSpec.ofChange fnExactChosenOfSpec)

/-- ITS FALSE NEIGHBOUR: 'it returns false'. Refute it at one input. -/
def fnExactChosenOfWrong : ChangeSpec := { name := "fnExactChosenOf", fn := fun _ => fun
  | [d1, d2] => { results := [.lit (.bool false)], args := [d1, d2] }
  | _ => none }
def FnExactChosenOfWrongFalsely : Prop := fnExactChosenOfRow.holds Try.pinned (OpenSpec.ofChange fnExactChosenOfWrong)

/-- 'laws.FnExactMapsOf': WHATEVER THE INPUT: true; the input reads as it did. -/
def fnExactMapsOfSpec : ChangeSpec := { name := "fnExactMapsOf", fn := fun _ => fun
  | [d] => { results := [.lit (.bool true)], args := [d] }
  | _ => none }
def fnExactMapsOfRow : OpenClaim := { program := "ytkongicjhdfkiaa", sum := "ab23426bdb74d0645a4d52f4d15a8b4ee8a697e4073d1b1b612cf6ede4cfd976", func := "loop.example/selfmaps/laws.FnExactMapsOf", spec := "fnExactMapsOf", unfollowed := true, recurses := true, apart := false }
def FnExactMapsOfSaid : Prop := fnExactMapsOfRow.holds Try.pinned (OpenSpec.ofChange fnExactMapsOfSpec)

/-- ITS FALSE NEIGHBOUR: 'it returns false'. Refute it at one input. -/
def fnExactMapsOfWrong : ChangeSpec := { name := "fnExactMapsOf", fn := fun _ => fun
  | [d] => { results := [.lit (.bool false)], args := [d] }
  | _ => none }
def FnExactMapsOfWrongFalsely : Prop := fnExactMapsOfRow.holds Try.pinned (OpenSpec.ofChange fnExactMapsOfWrong)

/-- 'laws.FnExactCodedOk': WHATEVER THE INPUT: true; the input reads as it did. -/
def fnExactCodedOkSpec : ChangeSpec := { name := "fnExactCodedOk", fn := fun _ => fun
  | [d] => { results := [.lit (.bool true)], args := [d] }
  | _ => none }
def fnExactCodedOkRow : OpenClaim := { program := "ytkongicjhdfkiaa", sum := "ab23426bdb74d0645a4d52f4d15a8b4ee8a697e4073d1b1b612cf6ede4cfd976", func := "loop.example/selfmaps/laws.FnExactCodedOk", spec := "fnExactCodedOk", apart := false }
def FnExactCodedOkSaid : Prop := fnExactCodedOkRow.holds Try.pinned (OpenSpec.ofChange fnExactCodedOkSpec)

/-- ITS FALSE NEIGHBOUR: 'it returns false'. Refute it at one input. -/
def fnExactCodedOkWrong : ChangeSpec := { name := "fnExactCodedOk", fn := fun _ => fun
  | [d] => { results := [.lit (.bool false)], args := [d] }
  | _ => none }
def FnExactCodedOkWrongFalsely : Prop := fnExactCodedOkRow.holds Try.pinned (OpenSpec.ofChange fnExactCodedOkWrong)

/-- 'laws.FnExactOnLoopsOf': WHATEVER THE INPUT: true; the input reads as it did. -/
def fnExactOnLoopsOfSpec : ChangeSpec := { name := "fnExactOnLoopsOf", fn := fun _ => fun
  | [d1, d2] => { results := [.lit (.bool true)], args := [d1, d2] }
  | _ => none }
def fnExactOnLoopsOfRow : OpenClaim := { program := "ytkongicjhdfkiaa", sum := "ab23426bdb74d0645a4d52f4d15a8b4ee8a697e4073d1b1b612cf6ede4cfd976", func := "loop.example/selfmaps/laws.FnExactOnLoopsOf", spec := "fnExactOnLoopsOf", unfollowed := true, recurses := true, apart := false }
def FnExactOnLoopsOfSaid : Prop := fnExactOnLoopsOfRow.holds Try.pinned (OpenSpec.ofChange fnExactOnLoopsOfSpec)

/-- ITS FALSE NEIGHBOUR: 'it returns false'. Refute it at one input. -/
def fnExactOnLoopsOfWrong : ChangeSpec := { name := "fnExactOnLoopsOf", fn := fun _ => fun
  | [d1, d2] => { results := [.lit (.bool false)], args := [d1, d2] }
  | _ => none }
def FnExactOnLoopsOfWrongFalsely : Prop := fnExactOnLoopsOfRow.holds Try.pinned (OpenSpec.ofChange fnExactOnLoopsOfWrong)

/-- 'laws.FnExactTreesOf': WHATEVER THE INPUT: true; the input reads as it did. -/
def fnExactTreesOfSpec : ChangeSpec := { name := "fnExactTreesOf", fn := fun _ => fun
  | [d] => { results := [.lit (.bool true)], args := [d] }
  | _ => none }
def fnExactTreesOfRow : OpenClaim := { program := "ytkongicjhdfkiaa", sum := "ab23426bdb74d0645a4d52f4d15a8b4ee8a697e4073d1b1b612cf6ede4cfd976", func := "loop.example/selfmaps/laws.FnExactTreesOf", spec := "fnExactTreesOf", unfollowed := true, recurses := true, apart := false }
def FnExactTreesOfSaid : Prop := fnExactTreesOfRow.holds Try.pinned (OpenSpec.ofChange fnExactTreesOfSpec)

/-- ITS FALSE NEIGHBOUR: 'it returns false'. Refute it at one input. -/
def fnExactTreesOfWrong : ChangeSpec := { name := "fnExactTreesOf", fn := fun _ => fun
  | [d] => { results := [.lit (.bool false)], args := [d] }
  | _ => none }
def FnExactTreesOfWrongFalsely : Prop := fnExactTreesOfRow.holds Try.pinned (OpenSpec.ofChange fnExactTreesOfWrong)

/-- 'laws.FnExactImagesOf': WHATEVER THE INPUT: true; the input reads as it did. -/
def fnExactImagesOfSpec : ChangeSpec := { name := "fnExactImagesOf", fn := fun _ => fun
  | [d1, d2] => { results := [.lit (.bool true)], args := [d1, d2] }
  | _ => none }
def fnExactImagesOfRow : OpenClaim := { program := "ytkongicjhdfkiaa", sum := "ab23426bdb74d0645a4d52f4d15a8b4ee8a697e4073d1b1b612cf6ede4cfd976", func := "loop.example/selfmaps/laws.FnExactImagesOf", spec := "fnExactImagesOf", unfollowed := true, recurses := true, apart := false }
def FnExactImagesOfSaid : Prop := fnExactImagesOfRow.holds Try.pinned (OpenSpec.ofChange fnExactImagesOfSpec)

/-- ITS FALSE NEIGHBOUR: 'it returns false'. Refute it at one input. -/
def fnExactImagesOfWrong : ChangeSpec := { name := "fnExactImagesOf", fn := fun _ => fun
  | [d1, d2] => { results := [.lit (.bool false)], args := [d1, d2] }
  | _ => none }
def FnExactImagesOfWrongFalsely : Prop := fnExactImagesOfRow.holds Try.pinned (OpenSpec.ofChange fnExactImagesOfWrong)

/-- 'laws.FnExactOneLotOf': WHATEVER THE INPUT: true; the input reads as it did. -/
def fnExactOneLotOfSpec : ChangeSpec := { name := "fnExactOneLotOf", fn := fun _ => fun
  | [d] => { results := [.lit (.bool true)], args := [d] }
  | _ => none }
def fnExactOneLotOfRow : OpenClaim := { program := "ytkongicjhdfkiaa", sum := "ab23426bdb74d0645a4d52f4d15a8b4ee8a697e4073d1b1b612cf6ede4cfd976", func := "loop.example/selfmaps/laws.FnExactOneLotOf", spec := "fnExactOneLotOf", unfollowed := true, recurses := true, apart := false }
def FnExactOneLotOfSaid : Prop := fnExactOneLotOfRow.holds Try.pinned (OpenSpec.ofChange fnExactOneLotOfSpec)

/-- ITS FALSE NEIGHBOUR: 'it returns false'. Refute it at one input. -/
def fnExactOneLotOfWrong : ChangeSpec := { name := "fnExactOneLotOf", fn := fun _ => fun
  | [d] => { results := [.lit (.bool false)], args := [d] }
  | _ => none }
def FnExactOneLotOfWrongFalsely : Prop := fnExactOneLotOfRow.holds Try.pinned (OpenSpec.ofChange fnExactOneLotOfWrong)

/-- 'laws.FnExactSettledMaps': WHATEVER THE INPUT: true; the input reads as it did. -/
def fnExactSettledMapsSpec : ChangeSpec := { name := "fnExactSettledMaps", fn := fun _ => fun
  | [d] => { results := [.lit (.bool true)], args := [d] }
  | _ => none }
def fnExactSettledMapsRow : OpenClaim := { program := "ytkongicjhdfkiaa", sum := "ab23426bdb74d0645a4d52f4d15a8b4ee8a697e4073d1b1b612cf6ede4cfd976", func := "loop.example/selfmaps/laws.FnExactSettledMaps", spec := "fnExactSettledMaps", unfollowed := true, recurses := true, apart := false }
def FnExactSettledMapsSaid : Prop := fnExactSettledMapsRow.holds Try.pinned (OpenSpec.ofChange fnExactSettledMapsSpec)

/-- ITS FALSE NEIGHBOUR: 'it returns false'. Refute it at one input. -/
def fnExactSettledMapsWrong : ChangeSpec := { name := "fnExactSettledMaps", fn := fun _ => fun
  | [d] => { results := [.lit (.bool false)], args := [d] }
  | _ => none }
def FnExactSettledMapsWrongFalsely : Prop := fnExactSettledMapsRow.holds Try.pinned (OpenSpec.ofChange fnExactSettledMapsWrong)

/-- 'laws.FnChosenOf': WHATEVER THE INPUT: true; the input reads as it did. -/
def fnChosenOfSpec : ChangeSpec := { name := "fnChosenOf", fn := fun _ => fun
  | [d] => { results := [.lit (.bool true)], args := [d] }
  | _ => none }
def fnChosenOfRow : OpenClaim := { program := "ytkongicjhdfkiaa", sum := "ab23426bdb74d0645a4d52f4d15a8b4ee8a697e4073d1b1b612cf6ede4cfd976", func := "loop.example/selfmaps/laws.FnChosenOf", spec := "fnChosenOf", recurses := true, apart := false }
def FnChosenOfSaid : Prop := fnChosenOfRow.holds Try.pinned (OpenSpec.ofChange fnChosenOfSpec)

/-- ITS FALSE NEIGHBOUR: 'it returns false'. Refute it at one input. -/
def fnChosenOfWrong : ChangeSpec := { name := "fnChosenOf", fn := fun _ => fun
  | [d] => { results := [.lit (.bool false)], args := [d] }
  | _ => none }
def FnChosenOfWrongFalsely : Prop := fnChosenOfRow.holds Try.pinned (OpenSpec.ofChange fnChosenOfWrong)

/-- 'laws.FnCodedOk': WHATEVER THE INPUT: true; the input reads as it did. -/
def fnCodedOkSpec : ChangeSpec := { name := "fnCodedOk", fn := fun _ => fun
  | [d] => { results := [.lit (.bool true)], args := [d] }
  | _ => none }
def fnCodedOkRow : OpenClaim := { program := "ytkongicjhdfkiaa", sum := "ab23426bdb74d0645a4d52f4d15a8b4ee8a697e4073d1b1b612cf6ede4cfd976", func := "loop.example/selfmaps/laws.FnCodedOk", spec := "fnCodedOk", apart := false }
def FnCodedOkSaid : Prop := fnCodedOkRow.holds Try.pinned (OpenSpec.ofChange fnCodedOkSpec)

/-- ITS FALSE NEIGHBOUR: 'it returns false'. Refute it at one input. -/
def fnCodedOkWrong : ChangeSpec := { name := "fnCodedOk", fn := fun _ => fun
  | [d] => { results := [.lit (.bool false)], args := [d] }
  | _ => none }
def FnCodedOkWrongFalsely : Prop := fnCodedOkRow.holds Try.pinned (OpenSpec.ofChange fnCodedOkWrong)

/-- 'laws.FnPartsOf': WHATEVER THE INPUT: true; the input reads as it did. -/
def fnPartsOfSpec : ChangeSpec := { name := "fnPartsOf", fn := fun _ => fun
  | [d] => { results := [.lit (.bool true)], args := [d] }
  | _ => none }
def fnPartsOfRow : OpenClaim := { program := "ytkongicjhdfkiaa", sum := "ab23426bdb74d0645a4d52f4d15a8b4ee8a697e4073d1b1b612cf6ede4cfd976", func := "loop.example/selfmaps/laws.FnPartsOf", spec := "fnPartsOf", recurses := true, apart := false }
def FnPartsOfSaid : Prop := fnPartsOfRow.holds Try.pinned (OpenSpec.ofChange fnPartsOfSpec)

/-- ITS FALSE NEIGHBOUR: 'it returns false'. Refute it at one input. -/
def fnPartsOfWrong : ChangeSpec := { name := "fnPartsOf", fn := fun _ => fun
  | [d] => { results := [.lit (.bool false)], args := [d] }
  | _ => none }
def FnPartsOfWrongFalsely : Prop := fnPartsOfRow.holds Try.pinned (OpenSpec.ofChange fnPartsOfWrong)

/-- 'laws.FnTreesOf': WHATEVER THE INPUT: true; the input reads as it did. -/
def fnTreesOfSpec : ChangeSpec := { name := "fnTreesOf", fn := fun _ => fun
  | [d] => { results := [.lit (.bool true)], args := [d] }
  | _ => none }
def fnTreesOfRow : OpenClaim := { program := "ytkongicjhdfkiaa", sum := "ab23426bdb74d0645a4d52f4d15a8b4ee8a697e4073d1b1b612cf6ede4cfd976", func := "loop.example/selfmaps/laws.FnTreesOf", spec := "fnTreesOf", unfollowed := true, recurses := true, apart := false }
def FnTreesOfSaid : Prop := fnTreesOfRow.holds Try.pinned (OpenSpec.ofChange fnTreesOfSpec)

/-- ITS FALSE NEIGHBOUR: 'it returns false'. Refute it at one input. -/
def fnTreesOfWrong : ChangeSpec := { name := "fnTreesOf", fn := fun _ => fun
  | [d] => { results := [.lit (.bool false)], args := [d] }
  | _ => none }
def FnTreesOfWrongFalsely : Prop := fnTreesOfRow.holds Try.pinned (OpenSpec.ofChange fnTreesOfWrong)

/-- 'laws.FnMapsOf': WHATEVER THE INPUT: true; the input reads as it did. -/
def fnMapsOfSpec : ChangeSpec := { name := "fnMapsOf", fn := fun _ => fun
  | [d] => { results := [.lit (.bool true)], args := [d] }
  | _ => none }
def fnMapsOfRow : OpenClaim := { program := "ytkongicjhdfkiaa", sum := "ab23426bdb74d0645a4d52f4d15a8b4ee8a697e4073d1b1b612cf6ede4cfd976", func := "loop.example/selfmaps/laws.FnMapsOf", spec := "fnMapsOf", unfollowed := true, recurses := true, apart := false }
def FnMapsOfSaid : Prop := fnMapsOfRow.holds Try.pinned (OpenSpec.ofChange fnMapsOfSpec)

/-- ITS FALSE NEIGHBOUR: 'it returns false'. Refute it at one input. -/
def fnMapsOfWrong : ChangeSpec := { name := "fnMapsOf", fn := fun _ => fun
  | [d] => { results := [.lit (.bool false)], args := [d] }
  | _ => none }
def FnMapsOfWrongFalsely : Prop := fnMapsOfRow.holds Try.pinned (OpenSpec.ofChange fnMapsOfWrong)

/-- 'laws.FnExactCentreOf': WHATEVER THE INPUT: true; the input reads as it did. -/
def fnExactCentreOfSpec : ChangeSpec := { name := "fnExactCentreOf", fn := fun _ => fun
  | [d] => { results := [.lit (.bool true)], args := [d] }
  | _ => none }
def fnExactCentreOfRow : OpenClaim := { program := "ytkongicjhdfkiaa", sum := "ab23426bdb74d0645a4d52f4d15a8b4ee8a697e4073d1b1b612cf6ede4cfd976", func := "loop.example/selfmaps/laws.FnExactCentreOf", spec := "fnExactCentreOf", apart := false }
def FnExactCentreOfSaid : Prop := fnExactCentreOfRow.holds Try.pinned (OpenSpec.ofChange fnExactCentreOfSpec)

/-- ITS FALSE NEIGHBOUR: 'it returns false'. Refute it at one input. -/
def fnExactCentreOfWrong : ChangeSpec := { name := "fnExactCentreOf", fn := fun _ => fun
  | [d] => { results := [.lit (.bool false)], args := [d] }
  | _ => none }
def FnExactCentreOfWrongFalsely : Prop := fnExactCentreOfRow.holds Try.pinned (OpenSpec.ofChange fnExactCentreOfWrong)

/- THE SECOND FORM. 'bulk': how many values and letters a reading holds, each counted each time it is reached (what is shared counts as often as it is met; a slice's spare places count too). A statement '..UptoSaid' is the law's where the arguments, and the package variables that the reading takes, are together of bulk at most 1048576: NARROWER than '..Said'. Prove '..Said' where nothing that the law and all that it calls make is longer than what came in: it says more and counts as full. Else prove '..UptoSaid'. A law counts once. -/
mutual
def uptoBulk {H : Type} : DataW H → Nat
  | .lit (.string bytes) => bytes.length + 1
  | .lit _ => 1
  | .nil => 1
  | .ptr d => uptoBulk d + 1
  | .slice elems spare => uptoBulkAll elems + uptoBulkAll spare + 1
  | .agg parts => uptoBulkAll parts + 1
  | .iface _ d => uptoBulk d + 1
  | .map entries => uptoBulkEntries entries + 1
  | .held _ => 1
def uptoBulkAll {H : Type} : List (DataW H) → Nat
  | [] => 0
  | d :: r => uptoBulk d + uptoBulkAll r
def uptoBulkEntries {H : Type} : List (Lit × DataW H) → Nat
  | [] => 0
  | x :: r => uptoBulkEntry x + uptoBulkEntries r
def uptoBulkEntry {H : Type} : Lit × DataW H → Nat
  | (.string bytes, d) => bytes.length + uptoBulk d + 1
  | (_, d) => uptoBulk d + 1
 end
def uptoSmall : (H : Type) → List (DataW H) → Bool := fun _ ds => decide (uptoBulkAll ds ≤ 1048576)
def OpenSpec.upto (s : _root_.Go.ChangeSpec) : _root_.Go.OpenSpec := { _root_.Go.OpenSpec.ofChange s with cond := some uptoSmall }

/-- 'laws.FnExactPartsOf', WHERE WHAT IT READS IS OF BULK AT MOST 1048576: true; the input reads as it did. -/
def fnExactPartsOfUptoRow : OpenClaim := { program := "ytkongicjhdfkiaa", sum := "ab23426bdb74d0645a4d52f4d15a8b4ee8a697e4073d1b1b612cf6ede4cfd976", func := "loop.example/selfmaps/laws.FnExactPartsOf", spec := "fnExactPartsOf", recurses := true, apart := false, narrowed := true }
def FnExactPartsOfUptoSaid : Prop := fnExactPartsOfUptoRow.holds Try.pinned (OpenSpec.upto fnExactPartsOfSpec)

/-- 'laws.FnExactChosenOf', WHERE WHAT IT READS IS OF BULK AT MOST 1048576: true; the input reads as it did. -/
def fnExactChosenOfUptoRow : OpenClaim := { program := "ytkongicjhdfkiaa", sum := "ab23426bdb74d0645a4d52f4d15a8b4ee8a697e4073d1b1b612cf6ede4cfd976", func := "loop.example/selfmaps/laws.FnExactChosenOf", spec := "fnExactChosenOf", recurses := true, apart := false, narrowed := true }
def FnExactChosenOfUptoSaid : Prop := fnExactChosenOfUptoRow.holds Try.pinned (OpenSpec.upto fnExactChosenOfSpec)

/-- 'laws.FnExactMapsOf', WHERE WHAT IT READS IS OF BULK AT MOST 1048576: true; the input reads as it did. -/
def fnExactMapsOfUptoRow : OpenClaim := { program := "ytkongicjhdfkiaa", sum := "ab23426bdb74d0645a4d52f4d15a8b4ee8a697e4073d1b1b612cf6ede4cfd976", func := "loop.example/selfmaps/laws.FnExactMapsOf", spec := "fnExactMapsOf", unfollowed := true, recurses := true, apart := false, narrowed := true }
def FnExactMapsOfUptoSaid : Prop := fnExactMapsOfUptoRow.holds Try.pinned (OpenSpec.upto fnExactMapsOfSpec)

/-- 'laws.FnExactCodedOk', WHERE WHAT IT READS IS OF BULK AT MOST 1048576: true; the input reads as it did. -/
def fnExactCodedOkUptoRow : OpenClaim := { program := "ytkongicjhdfkiaa", sum := "ab23426bdb74d0645a4d52f4d15a8b4ee8a697e4073d1b1b612cf6ede4cfd976", func := "loop.example/selfmaps/laws.FnExactCodedOk", spec := "fnExactCodedOk", apart := false, narrowed := true }
def FnExactCodedOkUptoSaid : Prop := fnExactCodedOkUptoRow.holds Try.pinned (OpenSpec.upto fnExactCodedOkSpec)

/-- 'laws.FnExactOnLoopsOf', WHERE WHAT IT READS IS OF BULK AT MOST 1048576: true; the input reads as it did. -/
def fnExactOnLoopsOfUptoRow : OpenClaim := { program := "ytkongicjhdfkiaa", sum := "ab23426bdb74d0645a4d52f4d15a8b4ee8a697e4073d1b1b612cf6ede4cfd976", func := "loop.example/selfmaps/laws.FnExactOnLoopsOf", spec := "fnExactOnLoopsOf", unfollowed := true, recurses := true, apart := false, narrowed := true }
def FnExactOnLoopsOfUptoSaid : Prop := fnExactOnLoopsOfUptoRow.holds Try.pinned (OpenSpec.upto fnExactOnLoopsOfSpec)

/-- 'laws.FnExactTreesOf', WHERE WHAT IT READS IS OF BULK AT MOST 1048576: true; the input reads as it did. -/
def fnExactTreesOfUptoRow : OpenClaim := { program := "ytkongicjhdfkiaa", sum := "ab23426bdb74d0645a4d52f4d15a8b4ee8a697e4073d1b1b612cf6ede4cfd976", func := "loop.example/selfmaps/laws.FnExactTreesOf", spec := "fnExactTreesOf", unfollowed := true, recurses := true, apart := false, narrowed := true }
def FnExactTreesOfUptoSaid : Prop := fnExactTreesOfUptoRow.holds Try.pinned (OpenSpec.upto fnExactTreesOfSpec)

/-- 'laws.FnExactImagesOf', WHERE WHAT IT READS IS OF BULK AT MOST 1048576: true; the input reads as it did. -/
def fnExactImagesOfUptoRow : OpenClaim := { program := "ytkongicjhdfkiaa", sum := "ab23426bdb74d0645a4d52f4d15a8b4ee8a697e4073d1b1b612cf6ede4cfd976", func := "loop.example/selfmaps/laws.FnExactImagesOf", spec := "fnExactImagesOf", unfollowed := true, recurses := true, apart := false, narrowed := true }
def FnExactImagesOfUptoSaid : Prop := fnExactImagesOfUptoRow.holds Try.pinned (OpenSpec.upto fnExactImagesOfSpec)

/-- 'laws.FnExactOneLotOf', WHERE WHAT IT READS IS OF BULK AT MOST 1048576: true; the input reads as it did. -/
def fnExactOneLotOfUptoRow : OpenClaim := { program := "ytkongicjhdfkiaa", sum := "ab23426bdb74d0645a4d52f4d15a8b4ee8a697e4073d1b1b612cf6ede4cfd976", func := "loop.example/selfmaps/laws.FnExactOneLotOf", spec := "fnExactOneLotOf", unfollowed := true, recurses := true, apart := false, narrowed := true }
def FnExactOneLotOfUptoSaid : Prop := fnExactOneLotOfUptoRow.holds Try.pinned (OpenSpec.upto fnExactOneLotOfSpec)

/-- 'laws.FnExactSettledMaps', WHERE WHAT IT READS IS OF BULK AT MOST 1048576: true; the input reads as it did. -/
def fnExactSettledMapsUptoRow : OpenClaim := { program := "ytkongicjhdfkiaa", sum := "ab23426bdb74d0645a4d52f4d15a8b4ee8a697e4073d1b1b612cf6ede4cfd976", func := "loop.example/selfmaps/laws.FnExactSettledMaps", spec := "fnExactSettledMaps", unfollowed := true, recurses := true, apart := false, narrowed := true }
def FnExactSettledMapsUptoSaid : Prop := fnExactSettledMapsUptoRow.holds Try.pinned (OpenSpec.upto fnExactSettledMapsSpec)

/-- 'laws.FnChosenOf', WHERE WHAT IT READS IS OF BULK AT MOST 1048576: true; the input reads as it did. -/
def fnChosenOfUptoRow : OpenClaim := { program := "ytkongicjhdfkiaa", sum := "ab23426bdb74d0645a4d52f4d15a8b4ee8a697e4073d1b1b612cf6ede4cfd976", func := "loop.example/selfmaps/laws.FnChosenOf", spec := "fnChosenOf", recurses := true, apart := false, narrowed := true }
def FnChosenOfUptoSaid : Prop := fnChosenOfUptoRow.holds Try.pinned (OpenSpec.upto fnChosenOfSpec)

/-- 'laws.FnCodedOk', WHERE WHAT IT READS IS OF BULK AT MOST 1048576: true; the input reads as it did. -/
def fnCodedOkUptoRow : OpenClaim := { program := "ytkongicjhdfkiaa", sum := "ab23426bdb74d0645a4d52f4d15a8b4ee8a697e4073d1b1b612cf6ede4cfd976", func := "loop.example/selfmaps/laws.FnCodedOk", spec := "fnCodedOk", apart := false, narrowed := true }
def FnCodedOkUptoSaid : Prop := fnCodedOkUptoRow.holds Try.pinned (OpenSpec.upto fnCodedOkSpec)

/-- 'laws.FnPartsOf', WHERE WHAT IT READS IS OF BULK AT MOST 1048576: true; the input reads as it did. -/
def fnPartsOfUptoRow : OpenClaim := { program := "ytkongicjhdfkiaa", sum := "ab23426bdb74d0645a4d52f4d15a8b4ee8a697e4073d1b1b612cf6ede4cfd976", func := "loop.example/selfmaps/laws.FnPartsOf", spec := "fnPartsOf", recurses := true, apart := false, narrowed := true }
def FnPartsOfUptoSaid : Prop := fnPartsOfUptoRow.holds Try.pinned (OpenSpec.upto fnPartsOfSpec)

/-- 'laws.FnTreesOf', WHERE WHAT IT READS IS OF BULK AT MOST 1048576: true; the input reads as it did. -/
def fnTreesOfUptoRow : OpenClaim := { program := "ytkongicjhdfkiaa", sum := "ab23426bdb74d0645a4d52f4d15a8b4ee8a697e4073d1b1b612cf6ede4cfd976", func := "loop.example/selfmaps/laws.FnTreesOf", spec := "fnTreesOf", unfollowed := true, recurses := true, apart := false, narrowed := true }
def FnTreesOfUptoSaid : Prop := fnTreesOfUptoRow.holds Try.pinned (OpenSpec.upto fnTreesOfSpec)

/-- 'laws.FnMapsOf', WHERE WHAT IT READS IS OF BULK AT MOST 1048576: true; the input reads as it did. -/
def fnMapsOfUptoRow : OpenClaim := { program := "ytkongicjhdfkiaa", sum := "ab23426bdb74d0645a4d52f4d15a8b4ee8a697e4073d1b1b612cf6ede4cfd976", func := "loop.example/selfmaps/laws.FnMapsOf", spec := "fnMapsOf", unfollowed := true, recurses := true, apart := false, narrowed := true }
def FnMapsOfUptoSaid : Prop := fnMapsOfUptoRow.holds Try.pinned (OpenSpec.upto fnMapsOfSpec)

/-- 'laws.FnExactCentreOf', WHERE WHAT IT READS IS OF BULK AT MOST 1048576: true; the input reads as it did. -/
def fnExactCentreOfUptoRow : OpenClaim := { program := "ytkongicjhdfkiaa", sum := "ab23426bdb74d0645a4d52f4d15a8b4ee8a697e4073d1b1b612cf6ede4cfd976", func := "loop.example/selfmaps/laws.FnExactCentreOf", spec := "fnExactCentreOf", apart := false, narrowed := true }
def FnExactCentreOfUptoSaid : Prop := fnExactCentreOfUptoRow.holds Try.pinned (OpenSpec.upto fnExactCentreOfSpec)

end Rows
end Go.Proofs.Ytkongicjhdfkiaa
