/-
  No cell of these rows narrows 'for every input' (looked for: loops, veiled, ifaces, maps, wideKeys, modest, calm, conditions, laid).
  DERIVED. THE GIVEN ROWS OF THIS SEAT. 6 by the template 'for every input the law returns true; each argument reads behind the call as it read before'; 0 by the template 'total and deterministic' (their statements: YtfjlocfaibbobabTotals.lean).
  GIVEN WITH THE SEED: the statements are not yours to turn. If you find one false, say at which input.
  Laid BY PROGRAM, IN A SANDBOX (cutbox-rows.mjs): the forced cells as the released guide's own fill.sh prints them over the translation 157634a75f132e8f… (all of the seat's roots in one cut). By AI agents, Wed Nov 11 2026. No macro, syntax, notation, axiom, sorry.
-/
import Derived.Test.YtfjlocfaibbobabChecked
import GoSem.Claim
import GoSem.ClaimJoined
import GoSem.ClaimMapViews
import Derived.JoinedTies
import Derived.KernelRfl
namespace Go.Proofs.Ytfjlocfaibbobab
/- THE CELL 'sum', in the pinned program and in every row, IS THE sha256 OF THE DUMP (.gsa) THAT YtfjlocfaibbobabProg.lean LOADS. Nothing in Lean hashes anything: it is a label: what it is worth is what the hold of that sum in a sandbox is worth. -/
noncomputable def Try.pinned : Pinned := { name := "ytfjlocfaibbobab", sum := "157634a75f132e8fb418f87f7a1b81f8d7e6c28d6c4d74241ec89524e66ac624", checked := Try.checked }
namespace Rows
def none {H : Type} : Left H := { results := [], args := [] }

/-- 'laws.FnExactPutEntry': WHATEVER THE INPUT: true; the input reads as it did. -/
def fnExactPutEntrySpec : ChangeSpec := { name := "fnExactPutEntry", fn := fun _ => fun
  | [d1, d2] => { results := [.lit (.bool true)], args := [d1, d2] }
  | _ => none }
def fnExactPutEntryRow : OpenClaim := { program := "ytfjlocfaibbobab", sum := "157634a75f132e8fb418f87f7a1b81f8d7e6c28d6c4d74241ec89524e66ac624", func := "loop.example/proofarchive/laws.FnExactPutEntry", spec := "fnExactPutEntry", inPlace := ["slices.overlaps[loop.example/proofarchive/impl.Entry]"], unfollowed := true, recurses := true, apart := false }
def FnExactPutEntrySaid : Prop := fnExactPutEntryRow.holds Try.pinned (OpenSpec.ofChange fnExactPutEntrySpec)

/-- ITS FALSE NEIGHBOUR: 'it returns false'. Refute it at one input. -/
def fnExactPutEntryWrong : ChangeSpec := { name := "fnExactPutEntry", fn := fun _ => fun
  | [d1, d2] => { results := [.lit (.bool false)], args := [d1, d2] }
  | _ => none }
def FnExactPutEntryWrongFalsely : Prop := fnExactPutEntryRow.holds Try.pinned (OpenSpec.ofChange fnExactPutEntryWrong)

/-- 'laws.FnPutEntry': WHATEVER THE INPUT: true; the input reads as it did. -/
def fnPutEntrySpec : ChangeSpec := { name := "fnPutEntry", fn := fun _ => fun
  | [d] => { results := [.lit (.bool true)], args := [d] }
  | _ => none }
def fnPutEntryRow : OpenClaim := { program := "ytfjlocfaibbobab", sum := "157634a75f132e8fb418f87f7a1b81f8d7e6c28d6c4d74241ec89524e66ac624", func := "loop.example/proofarchive/laws.FnPutEntry", spec := "fnPutEntry", inPlace := ["slices.overlaps[loop.example/proofarchive/impl.Entry]"], unfollowed := true, recurses := true, apart := false }
def FnPutEntrySaid : Prop := fnPutEntryRow.holds Try.pinned (OpenSpec.ofChange fnPutEntrySpec)

/-- ITS FALSE NEIGHBOUR: 'it returns false'. Refute it at one input. -/
def fnPutEntryWrong : ChangeSpec := { name := "fnPutEntry", fn := fun _ => fun
  | [d] => { results := [.lit (.bool false)], args := [d] }
  | _ => none }
def FnPutEntryWrongFalsely : Prop := fnPutEntryRow.holds Try.pinned (OpenSpec.ofChange fnPutEntryWrong)

/-- 'laws.FnStoreValid': WHATEVER THE INPUT: true; the input reads as it did. -/
def fnStoreValidSpec : ChangeSpec := { name := "fnStoreValid", fn := fun _ => fun
  | [d] => { results := [.lit (.bool true)], args := [d] }
  | _ => none }
def fnStoreValidRow : OpenClaim := { program := "ytfjlocfaibbobab", sum := "157634a75f132e8fb418f87f7a1b81f8d7e6c28d6c4d74241ec89524e66ac624", func := "loop.example/proofarchive/laws.FnStoreValid", spec := "fnStoreValid", recurses := true, apart := false }
def FnStoreValidSaid : Prop := fnStoreValidRow.holds Try.pinned (OpenSpec.ofChange fnStoreValidSpec)

/-- ITS FALSE NEIGHBOUR: 'it returns false'. Refute it at one input. -/
def fnStoreValidWrong : ChangeSpec := { name := "fnStoreValid", fn := fun _ => fun
  | [d] => { results := [.lit (.bool false)], args := [d] }
  | _ => none }
def FnStoreValidWrongFalsely : Prop := fnStoreValidRow.holds Try.pinned (OpenSpec.ofChange fnStoreValidWrong)

/-- 'laws.FnGetText': WHATEVER THE INPUT: true; the input reads as it did. -/
def fnGetTextSpec : ChangeSpec := { name := "fnGetText", fn := fun _ => fun
  | [d] => { results := [.lit (.bool true)], args := [d] }
  | _ => none }
def fnGetTextRow : OpenClaim := { program := "ytfjlocfaibbobab", sum := "157634a75f132e8fb418f87f7a1b81f8d7e6c28d6c4d74241ec89524e66ac624", func := "loop.example/proofarchive/laws.FnGetText", spec := "fnGetText", unfollowed := true, recurses := true, apart := false }
def FnGetTextSaid : Prop := fnGetTextRow.holds Try.pinned (OpenSpec.ofChange fnGetTextSpec)

/-- ITS FALSE NEIGHBOUR: 'it returns false'. Refute it at one input. -/
def fnGetTextWrong : ChangeSpec := { name := "fnGetText", fn := fun _ => fun
  | [d] => { results := [.lit (.bool false)], args := [d] }
  | _ => none }
def FnGetTextWrongFalsely : Prop := fnGetTextRow.holds Try.pinned (OpenSpec.ofChange fnGetTextWrong)

/-- 'laws.FnExactPutText': WHATEVER THE INPUT: true; the input reads as it did. -/
def fnExactPutTextSpec : ChangeSpec := { name := "fnExactPutText", fn := fun _ => fun
  | [d1, d2] => { results := [.lit (.bool true)], args := [d1, d2] }
  | _ => none }
def fnExactPutTextRow : OpenClaim := { program := "ytfjlocfaibbobab", sum := "157634a75f132e8fb418f87f7a1b81f8d7e6c28d6c4d74241ec89524e66ac624", func := "loop.example/proofarchive/laws.FnExactPutText", spec := "fnExactPutText", inPlace := ["slices.overlaps[loop.example/proofarchive/impl.Piece]"], unfollowed := true, recurses := true, apart := false }
def FnExactPutTextSaid : Prop := fnExactPutTextRow.holds Try.pinned (OpenSpec.ofChange fnExactPutTextSpec)

/-- ITS FALSE NEIGHBOUR: 'it returns false'. Refute it at one input. -/
def fnExactPutTextWrong : ChangeSpec := { name := "fnExactPutText", fn := fun _ => fun
  | [d1, d2] => { results := [.lit (.bool false)], args := [d1, d2] }
  | _ => none }
def FnExactPutTextWrongFalsely : Prop := fnExactPutTextRow.holds Try.pinned (OpenSpec.ofChange fnExactPutTextWrong)

/-- 'laws.FnExactJoinStores': WHATEVER THE INPUT: true; the input reads as it did. -/
def fnExactJoinStoresSpec : ChangeSpec := { name := "fnExactJoinStores", fn := fun _ => fun
  | [d1, d2] => { results := [.lit (.bool true)], args := [d1, d2] }
  | _ => none }
def fnExactJoinStoresRow : OpenClaim := { program := "ytfjlocfaibbobab", sum := "157634a75f132e8fb418f87f7a1b81f8d7e6c28d6c4d74241ec89524e66ac624", func := "loop.example/proofarchive/laws.FnExactJoinStores", spec := "fnExactJoinStores", inPlace := ["slices.overlaps[loop.example/proofarchive/impl.Piece]"], unfollowed := true, recurses := true, apart := false }
def FnExactJoinStoresSaid : Prop := fnExactJoinStoresRow.holds Try.pinned (OpenSpec.ofChange fnExactJoinStoresSpec)

/-- ITS FALSE NEIGHBOUR: 'it returns false'. Refute it at one input. -/
def fnExactJoinStoresWrong : ChangeSpec := { name := "fnExactJoinStores", fn := fun _ => fun
  | [d1, d2] => { results := [.lit (.bool false)], args := [d1, d2] }
  | _ => none }
def FnExactJoinStoresWrongFalsely : Prop := fnExactJoinStoresRow.holds Try.pinned (OpenSpec.ofChange fnExactJoinStoresWrong)

/- THE SECOND FORM. 'bulk': how many values and letters a reading holds, each counted each time it is reached (what is shared counts as often as it is met; a slice's spare places count too). A statement '..UptoSaid' is the law's where the arguments, and the package variables that the reading takes, are together of bulk at most 1048576: NARROWER than '..Said'. Prove '..Said' where nothing that the law and all that it calls make is longer than what came in: it says more and counts as full. Else prove '..UptoSaid'. A law counts once. -/
mutual
def uptoBulk {H : Type} : DataW H → Nat
  | .lit (.string bytes) => bytes.length + 1
  | .lit _ => 1
  | .nil => 1
  | .ptr d => uptoBulk d + 1
  | .slice elems spare => uptoBulkAll elems + uptoBulkAll spare + 1
  | .agg parts => uptoBulkAll parts + 1
  | .iface _ d => uptoBulk d + 1
  | .map entries => uptoBulkEntries entries + 1
  | .held _ => 1
def uptoBulkAll {H : Type} : List (DataW H) → Nat
  | [] => 0
  | d :: r => uptoBulk d + uptoBulkAll r
def uptoBulkEntries {H : Type} : List (Lit × DataW H) → Nat
  | [] => 0
  | x :: r => uptoBulkEntry x + uptoBulkEntries r
def uptoBulkEntry {H : Type} : Lit × DataW H → Nat
  | (.string bytes, d) => bytes.length + uptoBulk d + 1
  | (_, d) => uptoBulk d + 1
 end
def uptoSmall : (H : Type) → List (DataW H) → Bool := fun _ ds => decide (uptoBulkAll ds ≤ 1048576)
def OpenSpec.upto (s : _root_.Go.ChangeSpec) : _root_.Go.OpenSpec := { _root_.Go.OpenSpec.ofChange s with cond := some uptoSmall }

/-- 'laws.FnExactPutEntry', WHERE WHAT IT READS IS OF BULK AT MOST 1048576: true; the input reads as it did. -/
def fnExactPutEntryUptoRow : OpenClaim := { program := "ytfjlocfaibbobab", sum := "157634a75f132e8fb418f87f7a1b81f8d7e6c28d6c4d74241ec89524e66ac624", func := "loop.example/proofarchive/laws.FnExactPutEntry", spec := "fnExactPutEntry", inPlace := ["slices.overlaps[loop.example/proofarchive/impl.Entry]"], unfollowed := true, recurses := true, apart := false, narrowed := true }
def FnExactPutEntryUptoSaid : Prop := fnExactPutEntryUptoRow.holds Try.pinned (OpenSpec.upto fnExactPutEntrySpec)

/-- 'laws.FnPutEntry', WHERE WHAT IT READS IS OF BULK AT MOST 1048576: true; the input reads as it did. -/
def fnPutEntryUptoRow : OpenClaim := { program := "ytfjlocfaibbobab", sum := "157634a75f132e8fb418f87f7a1b81f8d7e6c28d6c4d74241ec89524e66ac624", func := "loop.example/proofarchive/laws.FnPutEntry", spec := "fnPutEntry", inPlace := ["slices.overlaps[loop.example/proofarchive/impl.Entry]"], unfollowed := true, recurses := true, apart := false, narrowed := true }
def FnPutEntryUptoSaid : Prop := fnPutEntryUptoRow.holds Try.pinned (OpenSpec.upto fnPutEntrySpec)

/-- 'laws.FnStoreValid', WHERE WHAT IT READS IS OF BULK AT MOST 1048576: true; the input reads as it did. -/
def fnStoreValidUptoRow : OpenClaim := { program := "ytfjlocfaibbobab", sum := "157634a75f132e8fb418f87f7a1b81f8d7e6c28d6c4d74241ec89524e66ac624", func := "loop.example/proofarchive/laws.FnStoreValid", spec := "fnStoreValid", recurses := true, apart := false, narrowed := true }
def FnStoreValidUptoSaid : Prop := fnStoreValidUptoRow.holds Try.pinned (OpenSpec.upto fnStoreValidSpec)

/-- 'laws.FnGetText', WHERE WHAT IT READS IS OF BULK AT MOST 1048576: true; the input reads as it did. -/
def fnGetTextUptoRow : OpenClaim := { program := "ytfjlocfaibbobab", sum := "157634a75f132e8fb418f87f7a1b81f8d7e6c28d6c4d74241ec89524e66ac624", func := "loop.example/proofarchive/laws.FnGetText", spec := "fnGetText", unfollowed := true, recurses := true, apart := false, narrowed := true }
def FnGetTextUptoSaid : Prop := fnGetTextUptoRow.holds Try.pinned (OpenSpec.upto fnGetTextSpec)

/-- 'laws.FnExactPutText', WHERE WHAT IT READS IS OF BULK AT MOST 1048576: true; the input reads as it did. -/
def fnExactPutTextUptoRow : OpenClaim := { program := "ytfjlocfaibbobab", sum := "157634a75f132e8fb418f87f7a1b81f8d7e6c28d6c4d74241ec89524e66ac624", func := "loop.example/proofarchive/laws.FnExactPutText", spec := "fnExactPutText", inPlace := ["slices.overlaps[loop.example/proofarchive/impl.Piece]"], unfollowed := true, recurses := true, apart := false, narrowed := true }
def FnExactPutTextUptoSaid : Prop := fnExactPutTextUptoRow.holds Try.pinned (OpenSpec.upto fnExactPutTextSpec)

/-- 'laws.FnExactJoinStores', WHERE WHAT IT READS IS OF BULK AT MOST 1048576: true; the input reads as it did. -/
def fnExactJoinStoresUptoRow : OpenClaim := { program := "ytfjlocfaibbobab", sum := "157634a75f132e8fb418f87f7a1b81f8d7e6c28d6c4d74241ec89524e66ac624", func := "loop.example/proofarchive/laws.FnExactJoinStores", spec := "fnExactJoinStores", inPlace := ["slices.overlaps[loop.example/proofarchive/impl.Piece]"], unfollowed := true, recurses := true, apart := false, narrowed := true }
def FnExactJoinStoresUptoSaid : Prop := fnExactJoinStoresUptoRow.holds Try.pinned (OpenSpec.upto fnExactJoinStoresSpec)

end Rows
end Go.Proofs.Ytfjlocfaibbobab
