/-
  No cell of these rows narrows 'for every input' (looked for: loops, veiled, ifaces, maps, wideKeys, modest, calm, conditions, laid).
  DERIVED. THE GIVEN ROWS OF THIS SEAT. 2 by the template 'for every input the law returns true; each argument reads behind the call as it read before'; 0 by the template 'total and deterministic' (their statements: YthoiljgpggldcaaTotals.lean).
  GIVEN WITH THE SEED: the statements are not yours to turn. If you find one false, say at which input.
  Laid BY PROGRAM, IN A SANDBOX (cutbox-rows.mjs): the forced cells as the released guide's own fill.sh prints them over the translation 85b0847ee695b31a… (all of the seat's roots in one cut). By AI agents, Wed Nov 11 2026. No macro, syntax, notation, axiom, sorry.
-/
import Derived.Test.YthoiljgpggldcaaChecked
import GoSem.Claim
import GoSem.ClaimJoined
import GoSem.ClaimMapViews
import Derived.JoinedTies
import Derived.KernelRfl
namespace Go.Proofs.Ythoiljgpggldcaa
/- THE CELL 'sum', in the pinned program and in every row, IS THE sha256 OF THE DUMP (.gsa) THAT YthoiljgpggldcaaProg.lean LOADS. Nothing in Lean hashes anything: it is a label: what it is worth is what the hold of that sum in a sandbox is worth. -/
noncomputable def Try.pinned : Pinned := { name := "ythoiljgpggldcaa", sum := "85b0847ee695b31aefe203c60ec49d7e7afda3f0f88361ea70b1fb182d549e96", checked := Try.checked }
namespace Rows
def none {H : Type} : Left H := { results := [], args := [] }

/-- 'laws.FnStoreValid': WHATEVER THE INPUT: true; the input reads as it did. -/
def fnStoreValidSpec : ChangeSpec := { name := "fnStoreValid", fn := fun _ => fun
  | [d] => { results := [.lit (.bool true)], args := [d] }
  | _ => none }
def fnStoreValidRow : OpenClaim := { program := "ythoiljgpggldcaa", sum := "85b0847ee695b31aefe203c60ec49d7e7afda3f0f88361ea70b1fb182d549e96", func := "loop.example/proofarchive/laws.FnStoreValid", spec := "fnStoreValid", recurses := true, apart := false }
def FnStoreValidSaid : Prop := fnStoreValidRow.holds Try.pinned (OpenSpec.ofChange fnStoreValidSpec)

/-- ITS FALSE NEIGHBOUR: 'it returns false'. Refute it at one input. -/
def fnStoreValidWrong : ChangeSpec := { name := "fnStoreValid", fn := fun _ => fun
  | [d] => { results := [.lit (.bool false)], args := [d] }
  | _ => none }
def FnStoreValidWrongFalsely : Prop := fnStoreValidRow.holds Try.pinned (OpenSpec.ofChange fnStoreValidWrong)

/-- 'laws.FnGetText': WHATEVER THE INPUT: true; the input reads as it did. -/
def fnGetTextSpec : ChangeSpec := { name := "fnGetText", fn := fun _ => fun
  | [d] => { results := [.lit (.bool true)], args := [d] }
  | _ => none }
def fnGetTextRow : OpenClaim := { program := "ythoiljgpggldcaa", sum := "85b0847ee695b31aefe203c60ec49d7e7afda3f0f88361ea70b1fb182d549e96", func := "loop.example/proofarchive/laws.FnGetText", spec := "fnGetText", unfollowed := true, recurses := true, apart := false }
def FnGetTextSaid : Prop := fnGetTextRow.holds Try.pinned (OpenSpec.ofChange fnGetTextSpec)

/-- ITS FALSE NEIGHBOUR: 'it returns false'. Refute it at one input. -/
def fnGetTextWrong : ChangeSpec := { name := "fnGetText", fn := fun _ => fun
  | [d] => { results := [.lit (.bool false)], args := [d] }
  | _ => none }
def FnGetTextWrongFalsely : Prop := fnGetTextRow.holds Try.pinned (OpenSpec.ofChange fnGetTextWrong)

/- THE SECOND FORM. 'bulk': how many values and letters a reading holds, each counted each time it is reached (what is shared counts as often as it is met; a slice's spare places count too). A statement '..UptoSaid' is the law's where the arguments, and the package variables that the reading takes, are together of bulk at most 1048576: NARROWER than '..Said'. Prove '..Said' where nothing that the law and all that it calls make is longer than what came in: it says more and counts as full. Else prove '..UptoSaid'. A law counts once. -/
mutual
def uptoBulk {H : Type} : DataW H → Nat
  | .lit (.string bytes) => bytes.length + 1
  | .lit _ => 1
  | .nil => 1
  | .ptr d => uptoBulk d + 1
  | .slice elems spare => uptoBulkAll elems + uptoBulkAll spare + 1
  | .agg parts => uptoBulkAll parts + 1
  | .iface _ d => uptoBulk d + 1
  | .map entries => uptoBulkEntries entries + 1
  | .held _ => 1
def uptoBulkAll {H : Type} : List (DataW H) → Nat
  | [] => 0
  | d :: r => uptoBulk d + uptoBulkAll r
def uptoBulkEntries {H : Type} : List (Lit × DataW H) → Nat
  | [] => 0
  | x :: r => uptoBulkEntry x + uptoBulkEntries r
def uptoBulkEntry {H : Type} : Lit × DataW H → Nat
  | (.string bytes, d) => bytes.length + uptoBulk d + 1
  | (_, d) => uptoBulk d + 1
 end
def uptoSmall : (H : Type) → List (DataW H) → Bool := fun _ ds => decide (uptoBulkAll ds ≤ 1048576)
def OpenSpec.upto (s : _root_.Go.ChangeSpec) : _root_.Go.OpenSpec := { _root_.Go.OpenSpec.ofChange s with cond := some uptoSmall }

/-- 'laws.FnStoreValid', WHERE WHAT IT READS IS OF BULK AT MOST 1048576: true; the input reads as it did. -/
def fnStoreValidUptoRow : OpenClaim := { program := "ythoiljgpggldcaa", sum := "85b0847ee695b31aefe203c60ec49d7e7afda3f0f88361ea70b1fb182d549e96", func := "loop.example/proofarchive/laws.FnStoreValid", spec := "fnStoreValid", recurses := true, apart := false, narrowed := true }
def FnStoreValidUptoSaid : Prop := fnStoreValidUptoRow.holds Try.pinned (OpenSpec.upto fnStoreValidSpec)

/-- 'laws.FnGetText', WHERE WHAT IT READS IS OF BULK AT MOST 1048576: true; the input reads as it did. -/
def fnGetTextUptoRow : OpenClaim := { program := "ythoiljgpggldcaa", sum := "85b0847ee695b31aefe203c60ec49d7e7afda3f0f88361ea70b1fb182d549e96", func := "loop.example/proofarchive/laws.FnGetText", spec := "fnGetText", unfollowed := true, recurses := true, apart := false, narrowed := true }
def FnGetTextUptoSaid : Prop := fnGetTextUptoRow.holds Try.pinned (OpenSpec.upto fnGetTextSpec)

end Rows
end Go.Proofs.Ythoiljgpggldcaa
