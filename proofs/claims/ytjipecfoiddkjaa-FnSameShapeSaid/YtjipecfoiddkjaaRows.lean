/-
  No cell of these rows narrows 'for every input' (looked for: loops, veiled, ifaces, maps, wideKeys, modest, calm, conditions, laid).
  DERIVED. THE GIVEN ROWS OF THIS SEAT. 3 by the template 'for every input the law returns true; each argument reads behind the call as it read before'; 0 by the template 'total and deterministic' (their statements: YtjipecfoiddkjaaTotals.lean).
  GIVEN WITH THE SEED: the statements are not yours to turn. If you find one false, say at which input.
  Laid BY PROGRAM, IN A SANDBOX (cutbox-rows.mjs): the forced cells as the released guide's own fill.sh prints them over the translation c53f1ca0f0258b95… (all of the seat's roots in one cut). By AI agents, Wed Nov 11 2026. No macro, syntax, notation, axiom, sorry.
-/
import Derived.Test.YtjipecfoiddkjaaChecked
import GoSem.Claim
import GoSem.ClaimJoined
import GoSem.ClaimMapViews
import Derived.JoinedTies
import Derived.KernelRfl
namespace Go.Proofs.Ytjipecfoiddkjaa
/- THE CELL 'sum', in the pinned program and in every row, IS THE sha256 OF THE DUMP (.gsa) THAT YtjipecfoiddkjaaProg.lean LOADS. Nothing in Lean hashes anything: it is a label: what it is worth is what the hold of that sum in a sandbox is worth. -/
noncomputable def Try.pinned : Pinned := { name := "ytjipecfoiddkjaa", sum := "c53f1ca0f0258b951a0d05e7ac2e5a03f2bc8821900ebe6720c4561aa8acaa92", checked := Try.checked }
namespace Rows
def none {H : Type} : Left H := { results := [], args := [] }

/-- 'laws.FnNamedOf': WHATEVER THE INPUT: true; the input reads as it did. -/
def fnNamedOfSpec : ChangeSpec := { name := "fnNamedOf", fn := fun _ => fun
  | [d] => { results := [.lit (.bool true)], args := [d] }
  | _ => none }
def fnNamedOfRow : OpenClaim := { program := "ytjipecfoiddkjaa", sum := "c53f1ca0f0258b951a0d05e7ac2e5a03f2bc8821900ebe6720c4561aa8acaa92", func := "loop.example/selfmaps/laws.FnNamedOf", spec := "fnNamedOf", inPlace := ["internal/abi.NoEscape", "internal/bytealg.MakeNoZero"], unfollowed := true, recurses := true, apart := false }
def FnNamedOfSaid : Prop := fnNamedOfRow.holds Try.pinned (OpenSpec.ofChange fnNamedOfSpec)

/-- ITS FALSE NEIGHBOUR: 'it returns false'. Refute it at one input. -/
def fnNamedOfWrong : ChangeSpec := { name := "fnNamedOf", fn := fun _ => fun
  | [d] => { results := [.lit (.bool false)], args := [d] }
  | _ => none }
def FnNamedOfWrongFalsely : Prop := fnNamedOfRow.holds Try.pinned (OpenSpec.ofChange fnNamedOfWrong)

/-- 'laws.FnShapeText': WHATEVER THE INPUT: true; the input reads as it did. -/
def fnShapeTextSpec : ChangeSpec := { name := "fnShapeText", fn := fun _ => fun
  | [d] => { results := [.lit (.bool true)], args := [d] }
  | _ => none }
def fnShapeTextRow : OpenClaim := { program := "ytjipecfoiddkjaa", sum := "c53f1ca0f0258b951a0d05e7ac2e5a03f2bc8821900ebe6720c4561aa8acaa92", func := "loop.example/selfmaps/laws.FnShapeText", spec := "fnShapeText", inPlace := ["internal/abi.NoEscape", "internal/bytealg.MakeNoZero"], unfollowed := true, recurses := true, apart := false }
def FnShapeTextSaid : Prop := fnShapeTextRow.holds Try.pinned (OpenSpec.ofChange fnShapeTextSpec)

/-- ITS FALSE NEIGHBOUR: 'it returns false'. Refute it at one input. -/
def fnShapeTextWrong : ChangeSpec := { name := "fnShapeText", fn := fun _ => fun
  | [d] => { results := [.lit (.bool false)], args := [d] }
  | _ => none }
def FnShapeTextWrongFalsely : Prop := fnShapeTextRow.holds Try.pinned (OpenSpec.ofChange fnShapeTextWrong)

/-- 'laws.FnSameShape': WHATEVER THE INPUT: true; the input reads as it did. -/
def fnSameShapeSpec : ChangeSpec := { name := "fnSameShape", fn := fun _ => fun
  | [d] => { results := [.lit (.bool true)], args := [d] }
  | _ => none }
def fnSameShapeRow : OpenClaim := { program := "ytjipecfoiddkjaa", sum := "c53f1ca0f0258b951a0d05e7ac2e5a03f2bc8821900ebe6720c4561aa8acaa92", func := "loop.example/selfmaps/laws.FnSameShape", spec := "fnSameShape", inPlace := ["internal/abi.NoEscape", "internal/bytealg.MakeNoZero"], unfollowed := true, recurses := true, apart := false }
def FnSameShapeSaid : Prop := fnSameShapeRow.holds Try.pinned (OpenSpec.ofChange fnSameShapeSpec)

/-- ITS FALSE NEIGHBOUR: 'it returns false'. Refute it at one input. -/
def fnSameShapeWrong : ChangeSpec := { name := "fnSameShape", fn := fun _ => fun
  | [d] => { results := [.lit (.bool false)], args := [d] }
  | _ => none }
def FnSameShapeWrongFalsely : Prop := fnSameShapeRow.holds Try.pinned (OpenSpec.ofChange fnSameShapeWrong)

/- THE SECOND FORM. 'bulk': how many values and letters a reading holds, each counted each time it is reached (what is shared counts as often as it is met; a slice's spare places count too). A statement '..UptoSaid' is the law's where the arguments, and the package variables that the reading takes, are together of bulk at most 1048576: NARROWER than '..Said'. Prove '..Said' where nothing that the law and all that it calls make is longer than what came in: it says more and counts as full. Else prove '..UptoSaid'. A law counts once. -/
mutual
def uptoBulk {H : Type} : DataW H → Nat
  | .lit (.string bytes) => bytes.length + 1
  | .lit _ => 1
  | .nil => 1
  | .ptr d => uptoBulk d + 1
  | .slice elems spare => uptoBulkAll elems + uptoBulkAll spare + 1
  | .agg parts => uptoBulkAll parts + 1
  | .iface _ d => uptoBulk d + 1
  | .map entries => uptoBulkEntries entries + 1
  | .held _ => 1
def uptoBulkAll {H : Type} : List (DataW H) → Nat
  | [] => 0
  | d :: r => uptoBulk d + uptoBulkAll r
def uptoBulkEntries {H : Type} : List (Lit × DataW H) → Nat
  | [] => 0
  | x :: r => uptoBulkEntry x + uptoBulkEntries r
def uptoBulkEntry {H : Type} : Lit × DataW H → Nat
  | (.string bytes, d) => bytes.length + uptoBulk d + 1
  | (_, d) => uptoBulk d + 1
 end
def uptoSmall : (H : Type) → List (DataW H) → Bool := fun _ ds => decide (uptoBulkAll ds ≤ 1048576)
def OpenSpec.upto (s : _root_.Go.ChangeSpec) : _root_.Go.OpenSpec := { _root_.Go.OpenSpec.ofChange s with cond := some uptoSmall }

/-- 'laws.FnNamedOf', WHERE WHAT IT READS IS OF BULK AT MOST 1048576: true; the input reads as it did. -/
def fnNamedOfUptoRow : OpenClaim := { program := "ytjipecfoiddkjaa", sum := "c53f1ca0f0258b951a0d05e7ac2e5a03f2bc8821900ebe6720c4561aa8acaa92", func := "loop.example/selfmaps/laws.FnNamedOf", spec := "fnNamedOf", inPlace := ["internal/abi.NoEscape", "internal/bytealg.MakeNoZero"], unfollowed := true, recurses := true, apart := false, narrowed := true }
def FnNamedOfUptoSaid : Prop := fnNamedOfUptoRow.holds Try.pinned (OpenSpec.upto fnNamedOfSpec)

/-- 'laws.FnShapeText', WHERE WHAT IT READS IS OF BULK AT MOST 1048576: true; the input reads as it did. -/
def fnShapeTextUptoRow : OpenClaim := { program := "ytjipecfoiddkjaa", sum := "c53f1ca0f0258b951a0d05e7ac2e5a03f2bc8821900ebe6720c4561aa8acaa92", func := "loop.example/selfmaps/laws.FnShapeText", spec := "fnShapeText", inPlace := ["internal/abi.NoEscape", "internal/bytealg.MakeNoZero"], unfollowed := true, recurses := true, apart := false, narrowed := true }
def FnShapeTextUptoSaid : Prop := fnShapeTextUptoRow.holds Try.pinned (OpenSpec.upto fnShapeTextSpec)

/-- 'laws.FnSameShape', WHERE WHAT IT READS IS OF BULK AT MOST 1048576: true; the input reads as it did. -/
def fnSameShapeUptoRow : OpenClaim := { program := "ytjipecfoiddkjaa", sum := "c53f1ca0f0258b951a0d05e7ac2e5a03f2bc8821900ebe6720c4561aa8acaa92", func := "loop.example/selfmaps/laws.FnSameShape", spec := "fnSameShape", inPlace := ["internal/abi.NoEscape", "internal/bytealg.MakeNoZero"], unfollowed := true, recurses := true, apart := false, narrowed := true }
def FnSameShapeUptoSaid : Prop := fnSameShapeUptoRow.holds Try.pinned (OpenSpec.upto fnSameShapeSpec)

end Rows
end Go.Proofs.Ytjipecfoiddkjaa
