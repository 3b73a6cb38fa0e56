/-
  No cell of these rows narrows 'for every input' (looked for: loops, veiled, ifaces, maps, wideKeys, modest, calm, conditions, laid).
  DERIVED. THE GIVEN ROWS OF THIS SEAT. 6 by the template 'for every input the law returns true; each argument reads behind the call as it read before'; 0 by the template 'total and deterministic' (their statements: YtkbfcaaihellfaaTotals.lean).
  GIVEN WITH THE SEED: the statements are not yours to turn. If you find one false, say at which input.
  Laid BY PROGRAM, IN A SANDBOX (cutbox-rows.mjs): the forced cells as the released guide's own fill.sh prints them over the translation 10989238fd004f9d… (all of the seat's roots in one cut). By AI agents, Wed Nov 11 2026. No macro, syntax, notation, axiom, sorry.
-/
import Derived.Test.YtkbfcaaihellfaaChecked
import GoSem.Claim
import GoSem.ClaimJoined
import GoSem.ClaimMapViews
import Derived.JoinedTies
import Derived.KernelRfl
namespace Go.Proofs.Ytkbfcaaihellfaa
/- THE CELL 'sum', in the pinned program and in every row, IS THE sha256 OF THE DUMP (.gsa) THAT YtkbfcaaihellfaaProg.lean LOADS. Nothing in Lean hashes anything: it is a label: what it is worth is what the hold of that sum in a sandbox is worth. -/
noncomputable def Try.pinned : Pinned := { name := "ytkbfcaaihellfaa", sum := "10989238fd004f9d689e9f59048160f5d2b77f6485522edab8fbe2724f4ce8a0", checked := Try.checked }
namespace Rows
def none {H : Type} : Left H := { results := [], args := [] }

/-- 'laws.FnExactRootsOf': WHATEVER THE INPUT: true; the input reads as it did. -/
def fnExactRootsOfSpec : ChangeSpec := { name := "fnExactRootsOf", fn := fun _ => fun
  | [d] => { results := [.lit (.bool true)], args := [d] }
  | _ => none }
def fnExactRootsOfRow : OpenClaim := { program := "ytkbfcaaihellfaa", sum := "10989238fd004f9d689e9f59048160f5d2b77f6485522edab8fbe2724f4ce8a0", func := "loop.example/selfmaps/laws.FnExactRootsOf", spec := "fnExactRootsOf", inPlace := ["(*sync.WaitGroup).Add", "internal/race.ReleaseMerge", "internal/race.Disable", "internal/race.Enable", "internal/synctest.IsInBubble", "internal/synctest.Associate[sync.WaitGroup]", "sync.fatal", "sync/atomic.OrUint64", "sync/atomic.AddUint64", "internal/race.Read", "sync/atomic.LoadUint64", "sync/atomic.StoreUint64", "internal/synctest.Disassociate[sync.WaitGroup]", "sync.runtime_Semrelease", "(*sync.WaitGroup).Done", "(*sync.WaitGroup).Wait", "internal/race.Acquire", "internal/synctest.IsAssociated[sync.WaitGroup]", "sync/atomic.CompareAndSwapUint64", "internal/race.Write", "sync.runtime_SemacquireWaitGroup"], unfollowed := true, recurses := true, leaving := true, apart := false }
def FnExactRootsOfSaid : Prop := fnExactRootsOfRow.holds Try.pinned (OpenSpec.ofChange fnExactRootsOfSpec)

/-- ITS FALSE NEIGHBOUR: 'it returns false'. Refute it at one input. -/
def fnExactRootsOfWrong : ChangeSpec := { name := "fnExactRootsOf", fn := fun _ => fun
  | [d] => { results := [.lit (.bool false)], args := [d] }
  | _ => none }
def FnExactRootsOfWrongFalsely : Prop := fnExactRootsOfRow.holds Try.pinned (OpenSpec.ofChange fnExactRootsOfWrong)

/-- 'laws.FnExactAllWith': WHATEVER THE INPUT: true; the input reads as it did. -/
def fnExactAllWithSpec : ChangeSpec := { name := "fnExactAllWith", fn := fun _ => fun
  | [d] => { results := [.lit (.bool true)], args := [d] }
  | _ => none }
def fnExactAllWithRow : OpenClaim := { program := "ytkbfcaaihellfaa", sum := "10989238fd004f9d689e9f59048160f5d2b77f6485522edab8fbe2724f4ce8a0", func := "loop.example/selfmaps/laws.FnExactAllWith", spec := "fnExactAllWith", inPlace := ["(*sync.WaitGroup).Add", "internal/race.ReleaseMerge", "internal/race.Disable", "internal/race.Enable", "internal/synctest.IsInBubble", "internal/synctest.Associate[sync.WaitGroup]", "sync.fatal", "sync/atomic.OrUint64", "sync/atomic.AddUint64", "internal/race.Read", "sync/atomic.LoadUint64", "sync/atomic.StoreUint64", "internal/synctest.Disassociate[sync.WaitGroup]", "sync.runtime_Semrelease", "(*sync.WaitGroup).Done", "(*sync.WaitGroup).Wait", "internal/race.Acquire", "internal/synctest.IsAssociated[sync.WaitGroup]", "sync/atomic.CompareAndSwapUint64", "internal/race.Write", "sync.runtime_SemacquireWaitGroup"], unfollowed := true, recurses := true, leaving := true, apart := false }
def FnExactAllWithSaid : Prop := fnExactAllWithRow.holds Try.pinned (OpenSpec.ofChange fnExactAllWithSpec)

/-- ITS FALSE NEIGHBOUR: 'it returns false'. Refute it at one input. -/
def fnExactAllWithWrong : ChangeSpec := { name := "fnExactAllWith", fn := fun _ => fun
  | [d] => { results := [.lit (.bool false)], args := [d] }
  | _ => none }
def FnExactAllWithWrongFalsely : Prop := fnExactAllWithRow.holds Try.pinned (OpenSpec.ofChange fnExactAllWithWrong)

/-- 'laws.FnAllWith': WHATEVER THE INPUT: true; the input reads as it did. -/
def fnAllWithSpec : ChangeSpec := { name := "fnAllWith", fn := fun _ => fun
  | [d] => { results := [.lit (.bool true)], args := [d] }
  | _ => none }
def fnAllWithRow : OpenClaim := { program := "ytkbfcaaihellfaa", sum := "10989238fd004f9d689e9f59048160f5d2b77f6485522edab8fbe2724f4ce8a0", func := "loop.example/selfmaps/laws.FnAllWith", spec := "fnAllWith", inPlace := ["(*sync.WaitGroup).Add", "internal/race.ReleaseMerge", "internal/race.Disable", "internal/race.Enable", "internal/synctest.IsInBubble", "internal/synctest.Associate[sync.WaitGroup]", "sync.fatal", "sync/atomic.OrUint64", "sync/atomic.AddUint64", "internal/race.Read", "sync/atomic.LoadUint64", "sync/atomic.StoreUint64", "internal/synctest.Disassociate[sync.WaitGroup]", "sync.runtime_Semrelease", "(*sync.WaitGroup).Done", "(*sync.WaitGroup).Wait", "internal/race.Acquire", "internal/synctest.IsAssociated[sync.WaitGroup]", "sync/atomic.CompareAndSwapUint64", "internal/race.Write", "sync.runtime_SemacquireWaitGroup"], unfollowed := true, recurses := true, leaving := true, apart := false }
def FnAllWithSaid : Prop := fnAllWithRow.holds Try.pinned (OpenSpec.ofChange fnAllWithSpec)

/-- ITS FALSE NEIGHBOUR: 'it returns false'. Refute it at one input. -/
def fnAllWithWrong : ChangeSpec := { name := "fnAllWith", fn := fun _ => fun
  | [d] => { results := [.lit (.bool false)], args := [d] }
  | _ => none }
def FnAllWithWrongFalsely : Prop := fnAllWithRow.holds Try.pinned (OpenSpec.ofChange fnAllWithWrong)

/-- 'laws.FnRootsOf': WHATEVER THE INPUT: true; the input reads as it did. -/
def fnRootsOfSpec : ChangeSpec := { name := "fnRootsOf", fn := fun _ => fun
  | [d] => { results := [.lit (.bool true)], args := [d] }
  | _ => none }
def fnRootsOfRow : OpenClaim := { program := "ytkbfcaaihellfaa", sum := "10989238fd004f9d689e9f59048160f5d2b77f6485522edab8fbe2724f4ce8a0", func := "loop.example/selfmaps/laws.FnRootsOf", spec := "fnRootsOf", inPlace := ["(*sync.WaitGroup).Add", "internal/race.ReleaseMerge", "internal/race.Disable", "internal/race.Enable", "internal/synctest.IsInBubble", "internal/synctest.Associate[sync.WaitGroup]", "sync.fatal", "sync/atomic.OrUint64", "sync/atomic.AddUint64", "internal/race.Read", "sync/atomic.LoadUint64", "sync/atomic.StoreUint64", "internal/synctest.Disassociate[sync.WaitGroup]", "sync.runtime_Semrelease", "(*sync.WaitGroup).Done", "(*sync.WaitGroup).Wait", "internal/race.Acquire", "internal/synctest.IsAssociated[sync.WaitGroup]", "sync/atomic.CompareAndSwapUint64", "internal/race.Write", "sync.runtime_SemacquireWaitGroup"], unfollowed := true, recurses := true, leaving := true, apart := false }
def FnRootsOfSaid : Prop := fnRootsOfRow.holds Try.pinned (OpenSpec.ofChange fnRootsOfSpec)

/-- ITS FALSE NEIGHBOUR: 'it returns false'. Refute it at one input. -/
def fnRootsOfWrong : ChangeSpec := { name := "fnRootsOf", fn := fun _ => fun
  | [d] => { results := [.lit (.bool false)], args := [d] }
  | _ => none }
def FnRootsOfWrongFalsely : Prop := fnRootsOfRow.holds Try.pinned (OpenSpec.ofChange fnRootsOfWrong)

/-- 'laws.FnTurnRootOk': WHATEVER THE INPUT: true; the input reads as it did. -/
def fnTurnRootOkSpec : ChangeSpec := { name := "fnTurnRootOk", fn := fun _ => fun
  | [d] => { results := [.lit (.bool true)], args := [d] }
  | _ => none }
def fnTurnRootOkRow : OpenClaim := { program := "ytkbfcaaihellfaa", sum := "10989238fd004f9d689e9f59048160f5d2b77f6485522edab8fbe2724f4ce8a0", func := "loop.example/selfmaps/laws.FnTurnRootOk", spec := "fnTurnRootOk", inPlace := ["(*sync.WaitGroup).Add", "internal/race.ReleaseMerge", "internal/race.Disable", "internal/race.Enable", "internal/synctest.IsInBubble", "internal/synctest.Associate[sync.WaitGroup]", "sync.fatal", "sync/atomic.OrUint64", "sync/atomic.AddUint64", "internal/race.Read", "sync/atomic.LoadUint64", "sync/atomic.StoreUint64", "internal/synctest.Disassociate[sync.WaitGroup]", "sync.runtime_Semrelease", "(*sync.WaitGroup).Done", "(*sync.WaitGroup).Wait", "internal/race.Acquire", "internal/synctest.IsAssociated[sync.WaitGroup]", "sync/atomic.CompareAndSwapUint64", "internal/race.Write", "sync.runtime_SemacquireWaitGroup"], unfollowed := true, recurses := true, leaving := true, apart := false }
def FnTurnRootOkSaid : Prop := fnTurnRootOkRow.holds Try.pinned (OpenSpec.ofChange fnTurnRootOkSpec)

/-- ITS FALSE NEIGHBOUR: 'it returns false'. Refute it at one input. -/
def fnTurnRootOkWrong : ChangeSpec := { name := "fnTurnRootOk", fn := fun _ => fun
  | [d] => { results := [.lit (.bool false)], args := [d] }
  | _ => none }
def FnTurnRootOkWrongFalsely : Prop := fnTurnRootOkRow.holds Try.pinned (OpenSpec.ofChange fnTurnRootOkWrong)

/-- 'laws.FnTurnsWith': WHATEVER THE INPUT: true; the input reads as it did. -/
def fnTurnsWithSpec : ChangeSpec := { name := "fnTurnsWith", fn := fun _ => fun
  | [d] => { results := [.lit (.bool true)], args := [d] }
  | _ => none }
def fnTurnsWithRow : OpenClaim := { program := "ytkbfcaaihellfaa", sum := "10989238fd004f9d689e9f59048160f5d2b77f6485522edab8fbe2724f4ce8a0", func := "loop.example/selfmaps/laws.FnTurnsWith", spec := "fnTurnsWith", inPlace := ["(*sync.WaitGroup).Add", "internal/race.ReleaseMerge", "internal/race.Disable", "internal/race.Enable", "internal/synctest.IsInBubble", "internal/synctest.Associate[sync.WaitGroup]", "sync.fatal", "sync/atomic.OrUint64", "sync/atomic.AddUint64", "internal/race.Read", "sync/atomic.LoadUint64", "sync/atomic.StoreUint64", "internal/synctest.Disassociate[sync.WaitGroup]", "sync.runtime_Semrelease", "(*sync.WaitGroup).Done", "(*sync.WaitGroup).Wait", "internal/race.Acquire", "internal/synctest.IsAssociated[sync.WaitGroup]", "sync/atomic.CompareAndSwapUint64", "internal/race.Write", "sync.runtime_SemacquireWaitGroup"], unfollowed := true, recurses := true, leaving := true, apart := false }
def FnTurnsWithSaid : Prop := fnTurnsWithRow.holds Try.pinned (OpenSpec.ofChange fnTurnsWithSpec)

/-- ITS FALSE NEIGHBOUR: 'it returns false'. Refute it at one input. -/
def fnTurnsWithWrong : ChangeSpec := { name := "fnTurnsWith", fn := fun _ => fun
  | [d] => { results := [.lit (.bool false)], args := [d] }
  | _ => none }
def FnTurnsWithWrongFalsely : Prop := fnTurnsWithRow.holds Try.pinned (OpenSpec.ofChange fnTurnsWithWrong)

/- THE SECOND FORM. 'bulk': how many values and letters a reading holds, each counted each time it is reached (what is shared counts as often as it is met; a slice's spare places count too). A statement '..UptoSaid' is the law's where the arguments, and the package variables that the reading takes, are together of bulk at most 1048576: NARROWER than '..Said'. Prove '..Said' where nothing that the law and all that it calls make is longer than what came in: it says more and counts as full. Else prove '..UptoSaid'. A law counts once. -/
mutual
def uptoBulk {H : Type} : DataW H → Nat
  | .lit (.string bytes) => bytes.length + 1
  | .lit _ => 1
  | .nil => 1
  | .ptr d => uptoBulk d + 1
  | .slice elems spare => uptoBulkAll elems + uptoBulkAll spare + 1
  | .agg parts => uptoBulkAll parts + 1
  | .iface _ d => uptoBulk d + 1
  | .map entries => uptoBulkEntries entries + 1
  | .held _ => 1
def uptoBulkAll {H : Type} : List (DataW H) → Nat
  | [] => 0
  | d :: r => uptoBulk d + uptoBulkAll r
def uptoBulkEntries {H : Type} : List (Lit × DataW H) → Nat
  | [] => 0
  | x :: r => uptoBulkEntry x + uptoBulkEntries r
def uptoBulkEntry {H : Type} : Lit × DataW H → Nat
  | (.string bytes, d) => bytes.length + uptoBulk d + 1
  | (_, d) => uptoBulk d + 1
 end
def uptoSmall : (H : Type) → List (DataW H) → Bool := fun _ ds => decide (uptoBulkAll ds ≤ 1048576)
def OpenSpec.upto (s : _root_.Go.ChangeSpec) : _root_.Go.OpenSpec := { _root_.Go.OpenSpec.ofChange s with cond := some uptoSmall }

/-- 'laws.FnExactRootsOf', WHERE WHAT IT READS IS OF BULK AT MOST 1048576: true; the input reads as it did. -/
def fnExactRootsOfUptoRow : OpenClaim := { program := "ytkbfcaaihellfaa", sum := "10989238fd004f9d689e9f59048160f5d2b77f6485522edab8fbe2724f4ce8a0", func := "loop.example/selfmaps/laws.FnExactRootsOf", spec := "fnExactRootsOf", inPlace := ["(*sync.WaitGroup).Add", "internal/race.ReleaseMerge", "internal/race.Disable", "internal/race.Enable", "internal/synctest.IsInBubble", "internal/synctest.Associate[sync.WaitGroup]", "sync.fatal", "sync/atomic.OrUint64", "sync/atomic.AddUint64", "internal/race.Read", "sync/atomic.LoadUint64", "sync/atomic.StoreUint64", "internal/synctest.Disassociate[sync.WaitGroup]", "sync.runtime_Semrelease", "(*sync.WaitGroup).Done", "(*sync.WaitGroup).Wait", "internal/race.Acquire", "internal/synctest.IsAssociated[sync.WaitGroup]", "sync/atomic.CompareAndSwapUint64", "internal/race.Write", "sync.runtime_SemacquireWaitGroup"], unfollowed := true, recurses := true, leaving := true, apart := false, narrowed := true }
def FnExactRootsOfUptoSaid : Prop := fnExactRootsOfUptoRow.holds Try.pinned (OpenSpec.upto fnExactRootsOfSpec)

/-- 'laws.FnExactAllWith', WHERE WHAT IT READS IS OF BULK AT MOST 1048576: true; the input reads as it did. -/
def fnExactAllWithUptoRow : OpenClaim := { program := "ytkbfcaaihellfaa", sum := "10989238fd004f9d689e9f59048160f5d2b77f6485522edab8fbe2724f4ce8a0", func := "loop.example/selfmaps/laws.FnExactAllWith", spec := "fnExactAllWith", inPlace := ["(*sync.WaitGroup).Add", "internal/race.ReleaseMerge", "internal/race.Disable", "internal/race.Enable", "internal/synctest.IsInBubble", "internal/synctest.Associate[sync.WaitGroup]", "sync.fatal", "sync/atomic.OrUint64", "sync/atomic.AddUint64", "internal/race.Read", "sync/atomic.LoadUint64", "sync/atomic.StoreUint64", "internal/synctest.Disassociate[sync.WaitGroup]", "sync.runtime_Semrelease", "(*sync.WaitGroup).Done", "(*sync.WaitGroup).Wait", "internal/race.Acquire", "internal/synctest.IsAssociated[sync.WaitGroup]", "sync/atomic.CompareAndSwapUint64", "internal/race.Write", "sync.runtime_SemacquireWaitGroup"], unfollowed := true, recurses := true, leaving := true, apart := false, narrowed := true }
def FnExactAllWithUptoSaid : Prop := fnExactAllWithUptoRow.holds Try.pinned (OpenSpec.upto fnExactAllWithSpec)

/-- 'laws.FnAllWith', WHERE WHAT IT READS IS OF BULK AT MOST 1048576: true; the input reads as it did. -/
def fnAllWithUptoRow : OpenClaim := { program := "ytkbfcaaihellfaa", sum := "10989238fd004f9d689e9f59048160f5d2b77f6485522edab8fbe2724f4ce8a0", func := "loop.example/selfmaps/laws.FnAllWith", spec := "fnAllWith", inPlace := ["(*sync.WaitGroup).Add", "internal/race.ReleaseMerge", "internal/race.Disable", "internal/race.Enable", "internal/synctest.IsInBubble", "internal/synctest.Associate[sync.WaitGroup]", "sync.fatal", "sync/atomic.OrUint64", "sync/atomic.AddUint64", "internal/race.Read", "sync/atomic.LoadUint64", "sync/atomic.StoreUint64", "internal/synctest.Disassociate[sync.WaitGroup]", "sync.runtime_Semrelease", "(*sync.WaitGroup).Done", "(*sync.WaitGroup).Wait", "internal/race.Acquire", "internal/synctest.IsAssociated[sync.WaitGroup]", "sync/atomic.CompareAndSwapUint64", "internal/race.Write", "sync.runtime_SemacquireWaitGroup"], unfollowed := true, recurses := true, leaving := true, apart := false, narrowed := true }
def FnAllWithUptoSaid : Prop := fnAllWithUptoRow.holds Try.pinned (OpenSpec.upto fnAllWithSpec)

/-- 'laws.FnRootsOf', WHERE WHAT IT READS IS OF BULK AT MOST 1048576: true; the input reads as it did. -/
def fnRootsOfUptoRow : OpenClaim := { program := "ytkbfcaaihellfaa", sum := "10989238fd004f9d689e9f59048160f5d2b77f6485522edab8fbe2724f4ce8a0", func := "loop.example/selfmaps/laws.FnRootsOf", spec := "fnRootsOf", inPlace := ["(*sync.WaitGroup).Add", "internal/race.ReleaseMerge", "internal/race.Disable", "internal/race.Enable", "internal/synctest.IsInBubble", "internal/synctest.Associate[sync.WaitGroup]", "sync.fatal", "sync/atomic.OrUint64", "sync/atomic.AddUint64", "internal/race.Read", "sync/atomic.LoadUint64", "sync/atomic.StoreUint64", "internal/synctest.Disassociate[sync.WaitGroup]", "sync.runtime_Semrelease", "(*sync.WaitGroup).Done", "(*sync.WaitGroup).Wait", "internal/race.Acquire", "internal/synctest.IsAssociated[sync.WaitGroup]", "sync/atomic.CompareAndSwapUint64", "internal/race.Write", "sync.runtime_SemacquireWaitGroup"], unfollowed := true, recurses := true, leaving := true, apart := false, narrowed := true }
def FnRootsOfUptoSaid : Prop := fnRootsOfUptoRow.holds Try.pinned (OpenSpec.upto fnRootsOfSpec)

/-- 'laws.FnTurnRootOk', WHERE WHAT IT READS IS OF BULK AT MOST 1048576: true; the input reads as it did. -/
def fnTurnRootOkUptoRow : OpenClaim := { program := "ytkbfcaaihellfaa", sum := "10989238fd004f9d689e9f59048160f5d2b77f6485522edab8fbe2724f4ce8a0", func := "loop.example/selfmaps/laws.FnTurnRootOk", spec := "fnTurnRootOk", inPlace := ["(*sync.WaitGroup).Add", "internal/race.ReleaseMerge", "internal/race.Disable", "internal/race.Enable", "internal/synctest.IsInBubble", "internal/synctest.Associate[sync.WaitGroup]", "sync.fatal", "sync/atomic.OrUint64", "sync/atomic.AddUint64", "internal/race.Read", "sync/atomic.LoadUint64", "sync/atomic.StoreUint64", "internal/synctest.Disassociate[sync.WaitGroup]", "sync.runtime_Semrelease", "(*sync.WaitGroup).Done", "(*sync.WaitGroup).Wait", "internal/race.Acquire", "internal/synctest.IsAssociated[sync.WaitGroup]", "sync/atomic.CompareAndSwapUint64", "internal/race.Write", "sync.runtime_SemacquireWaitGroup"], unfollowed := true, recurses := true, leaving := true, apart := false, narrowed := true }
def FnTurnRootOkUptoSaid : Prop := fnTurnRootOkUptoRow.holds Try.pinned (OpenSpec.upto fnTurnRootOkSpec)

/-- 'laws.FnTurnsWith', WHERE WHAT IT READS IS OF BULK AT MOST 1048576: true; the input reads as it did. -/
def fnTurnsWithUptoRow : OpenClaim := { program := "ytkbfcaaihellfaa", sum := "10989238fd004f9d689e9f59048160f5d2b77f6485522edab8fbe2724f4ce8a0", func := "loop.example/selfmaps/laws.FnTurnsWith", spec := "fnTurnsWith", inPlace := ["(*sync.WaitGroup).Add", "internal/race.ReleaseMerge", "internal/race.Disable", "internal/race.Enable", "internal/synctest.IsInBubble", "internal/synctest.Associate[sync.WaitGroup]", "sync.fatal", "sync/atomic.OrUint64", "sync/atomic.AddUint64", "internal/race.Read", "sync/atomic.LoadUint64", "sync/atomic.StoreUint64", "internal/synctest.Disassociate[sync.WaitGroup]", "sync.runtime_Semrelease", "(*sync.WaitGroup).Done", "(*sync.WaitGroup).Wait", "internal/race.Acquire", "internal/synctest.IsAssociated[sync.WaitGroup]", "sync/atomic.CompareAndSwapUint64", "internal/race.Write", "sync.runtime_SemacquireWaitGroup"], unfollowed := true, recurses := true, leaving := true, apart := false, narrowed := true }
def FnTurnsWithUptoSaid : Prop := fnTurnsWithUptoRow.holds Try.pinned (OpenSpec.upto fnTurnsWithSpec)

end Rows
end Go.Proofs.Ytkbfcaaihellfaa
