/-
  No cell of these rows narrows 'for every input' (looked for: loops, veiled, ifaces, maps, wideKeys, modest, calm, conditions, laid).
  DERIVED. THE GIVEN ROWS OF THIS SEAT. 10 by the template 'for every input the law returns true; each argument reads behind the call as it read before'; 0 by the template 'total and deterministic' (their statements: YtgnliaekngbmbaaTotals.lean).
  GIVEN WITH THE SEED: the statements are not yours to turn. If you find one false, say at which input.
  Laid BY PROGRAM, IN A SANDBOX (cutbox-rows.mjs): the forced cells as the released guide's own fill.sh prints them over the translation e099d5417c1516c0… (all of the seat's roots in one cut). By AI agents, Wed Nov 11 2026. No macro, syntax, notation, axiom, sorry.
-/
import Derived.Test.YtgnliaekngbmbaaChecked
import GoSem.Claim
import GoSem.ClaimJoined
import GoSem.ClaimMapViews
import Derived.JoinedTies
import Derived.KernelRfl
namespace Go.Proofs.Ytgnliaekngbmbaa
/- THE CELL 'sum', in the pinned program and in every row, IS THE sha256 OF THE DUMP (.gsa) THAT YtgnliaekngbmbaaProg.lean LOADS. Nothing in Lean hashes anything: it is a label: what it is worth is what the hold of that sum in a sandbox is worth. -/
noncomputable def Try.pinned : Pinned := { name := "ytgnliaekngbmbaa", sum := "e099d5417c1516c0af8315241d269ea428df0bf2135770ba11730b089cb6cfb1", checked := Try.checked }
namespace Rows
def none {H : Type} : Left H := { results := [], args := [] }

/-- 'laws.FnEntriesValid': WHATEVER THE INPUT: true; the input reads as it did. -/
def fnEntriesValidSpec : ChangeSpec := { name := "fnEntriesValid", fn := fun _ => fun
  | [d] => { results := [.lit (.bool true)], args := [d] }
  | _ => none }
def fnEntriesValidRow : OpenClaim := { program := "ytgnliaekngbmbaa", sum := "e099d5417c1516c0af8315241d269ea428df0bf2135770ba11730b089cb6cfb1", func := "loop.example/proofarchive/laws.FnEntriesValid", spec := "fnEntriesValid", apart := false }
def FnEntriesValidSaid : Prop := fnEntriesValidRow.holds Try.pinned (OpenSpec.ofChange fnEntriesValidSpec)

/-- ITS FALSE NEIGHBOUR: 'it returns false'. Refute it at one input. -/
def fnEntriesValidWrong : ChangeSpec := { name := "fnEntriesValid", fn := fun _ => fun
  | [d] => { results := [.lit (.bool false)], args := [d] }
  | _ => none }
def FnEntriesValidWrongFalsely : Prop := fnEntriesValidRow.holds Try.pinned (OpenSpec.ofChange fnEntriesValidWrong)

/-- 'laws.FnTreeRoot': WHATEVER THE INPUT: true; the input reads as it did. -/
def fnTreeRootSpec : ChangeSpec := { name := "fnTreeRoot", fn := fun _ => fun
  | [d] => { results := [.lit (.bool true)], args := [d] }
  | _ => none }
def fnTreeRootRow : OpenClaim := { program := "ytgnliaekngbmbaa", sum := "e099d5417c1516c0af8315241d269ea428df0bf2135770ba11730b089cb6cfb1", func := "loop.example/proofarchive/laws.FnTreeRoot", spec := "fnTreeRoot", apart := false }
def FnTreeRootSaid : Prop := fnTreeRootRow.holds Try.pinned (OpenSpec.ofChange fnTreeRootSpec)

/-- ITS FALSE NEIGHBOUR: 'it returns false'. Refute it at one input. -/
def fnTreeRootWrong : ChangeSpec := { name := "fnTreeRoot", fn := fun _ => fun
  | [d] => { results := [.lit (.bool false)], args := [d] }
  | _ => none }
def FnTreeRootWrongFalsely : Prop := fnTreeRootRow.holds Try.pinned (OpenSpec.ofChange fnTreeRootWrong)

/-- 'laws.FnExactJoinPath': WHATEVER THE INPUT: true; the input reads as it did. -/
def fnExactJoinPathSpec : ChangeSpec := { name := "fnExactJoinPath", fn := fun _ => fun
  | [d] => { results := [.lit (.bool true)], args := [d] }
  | _ => none }
def fnExactJoinPathRow : OpenClaim := { program := "ytgnliaekngbmbaa", sum := "e099d5417c1516c0af8315241d269ea428df0bf2135770ba11730b089cb6cfb1", func := "loop.example/proofarchive/laws.FnExactJoinPath", spec := "fnExactJoinPath", inPlace := ["internal/abi.NoEscape", "internal/bytealg.MakeNoZero"], apart := false }
def FnExactJoinPathSaid : Prop := fnExactJoinPathRow.holds Try.pinned (OpenSpec.ofChange fnExactJoinPathSpec)

/-- ITS FALSE NEIGHBOUR: 'it returns false'. Refute it at one input. -/
def fnExactJoinPathWrong : ChangeSpec := { name := "fnExactJoinPath", fn := fun _ => fun
  | [d] => { results := [.lit (.bool false)], args := [d] }
  | _ => none }
def FnExactJoinPathWrongFalsely : Prop := fnExactJoinPathRow.holds Try.pinned (OpenSpec.ofChange fnExactJoinPathWrong)

/-- 'laws.FnExactGetText': WHATEVER THE INPUT: true; the input reads as it did. -/
def fnExactGetTextSpec : ChangeSpec := { name := "fnExactGetText", fn := fun _ => fun
  | [d1, d2] => { results := [.lit (.bool true)], args := [d1, d2] }
  | _ => none }
def fnExactGetTextRow : OpenClaim := { program := "ytgnliaekngbmbaa", sum := "e099d5417c1516c0af8315241d269ea428df0bf2135770ba11730b089cb6cfb1", func := "loop.example/proofarchive/laws.FnExactGetText", spec := "fnExactGetText", unfollowed := true, recurses := true, apart := false }
def FnExactGetTextSaid : Prop := fnExactGetTextRow.holds Try.pinned (OpenSpec.ofChange fnExactGetTextSpec)

/-- ITS FALSE NEIGHBOUR: 'it returns false'. Refute it at one input. -/
def fnExactGetTextWrong : ChangeSpec := { name := "fnExactGetText", fn := fun _ => fun
  | [d1, d2] => { results := [.lit (.bool false)], args := [d1, d2] }
  | _ => none }
def FnExactGetTextWrongFalsely : Prop := fnExactGetTextRow.holds Try.pinned (OpenSpec.ofChange fnExactGetTextWrong)

/-- 'laws.FnProofRoot': WHATEVER THE INPUT: true; the input reads as it did. -/
def fnProofRootSpec : ChangeSpec := { name := "fnProofRoot", fn := fun _ => fun
  | [d] => { results := [.lit (.bool true)], args := [d] }
  | _ => none }
def fnProofRootRow : OpenClaim := { program := "ytgnliaekngbmbaa", sum := "e099d5417c1516c0af8315241d269ea428df0bf2135770ba11730b089cb6cfb1", func := "loop.example/proofarchive/laws.FnProofRoot", spec := "fnProofRoot", apart := false }
def FnProofRootSaid : Prop := fnProofRootRow.holds Try.pinned (OpenSpec.ofChange fnProofRootSpec)

/-- ITS FALSE NEIGHBOUR: 'it returns false'. Refute it at one input. -/
def fnProofRootWrong : ChangeSpec := { name := "fnProofRoot", fn := fun _ => fun
  | [d] => { results := [.lit (.bool false)], args := [d] }
  | _ => none }
def FnProofRootWrongFalsely : Prop := fnProofRootRow.holds Try.pinned (OpenSpec.ofChange fnProofRootWrong)

/-- 'laws.FnTreeProof': WHATEVER THE INPUT: true; the input reads as it did. -/
def fnTreeProofSpec : ChangeSpec := { name := "fnTreeProof", fn := fun _ => fun
  | [d] => { results := [.lit (.bool true)], args := [d] }
  | _ => none }
def fnTreeProofRow : OpenClaim := { program := "ytgnliaekngbmbaa", sum := "e099d5417c1516c0af8315241d269ea428df0bf2135770ba11730b089cb6cfb1", func := "loop.example/proofarchive/laws.FnTreeProof", spec := "fnTreeProof", apart := false }
def FnTreeProofSaid : Prop := fnTreeProofRow.holds Try.pinned (OpenSpec.ofChange fnTreeProofSpec)

/-- ITS FALSE NEIGHBOUR: 'it returns false'. Refute it at one input. -/
def fnTreeProofWrong : ChangeSpec := { name := "fnTreeProof", fn := fun _ => fun
  | [d] => { results := [.lit (.bool false)], args := [d] }
  | _ => none }
def FnTreeProofWrongFalsely : Prop := fnTreeProofRow.holds Try.pinned (OpenSpec.ofChange fnTreeProofWrong)

/-- 'laws.FnDropEntry': WHATEVER THE INPUT: true; the input reads as it did. -/
def fnDropEntrySpec : ChangeSpec := { name := "fnDropEntry", fn := fun _ => fun
  | [d] => { results := [.lit (.bool true)], args := [d] }
  | _ => none }
def fnDropEntryRow : OpenClaim := { program := "ytgnliaekngbmbaa", sum := "e099d5417c1516c0af8315241d269ea428df0bf2135770ba11730b089cb6cfb1", func := "loop.example/proofarchive/laws.FnDropEntry", spec := "fnDropEntry", unfollowed := true, recurses := true, apart := false }
def FnDropEntrySaid : Prop := fnDropEntryRow.holds Try.pinned (OpenSpec.ofChange fnDropEntrySpec)

/-- ITS FALSE NEIGHBOUR: 'it returns false'. Refute it at one input. -/
def fnDropEntryWrong : ChangeSpec := { name := "fnDropEntry", fn := fun _ => fun
  | [d] => { results := [.lit (.bool false)], args := [d] }
  | _ => none }
def FnDropEntryWrongFalsely : Prop := fnDropEntryRow.holds Try.pinned (OpenSpec.ofChange fnDropEntryWrong)

/-- 'laws.FnExactDropEntry': WHATEVER THE INPUT: true; the input reads as it did. -/
def fnExactDropEntrySpec : ChangeSpec := { name := "fnExactDropEntry", fn := fun _ => fun
  | [d1, d2] => { results := [.lit (.bool true)], args := [d1, d2] }
  | _ => none }
def fnExactDropEntryRow : OpenClaim := { program := "ytgnliaekngbmbaa", sum := "e099d5417c1516c0af8315241d269ea428df0bf2135770ba11730b089cb6cfb1", func := "loop.example/proofarchive/laws.FnExactDropEntry", spec := "fnExactDropEntry", unfollowed := true, recurses := true, apart := false }
def FnExactDropEntrySaid : Prop := fnExactDropEntryRow.holds Try.pinned (OpenSpec.ofChange fnExactDropEntrySpec)

/-- ITS FALSE NEIGHBOUR: 'it returns false'. Refute it at one input. -/
def fnExactDropEntryWrong : ChangeSpec := { name := "fnExactDropEntry", fn := fun _ => fun
  | [d1, d2] => { results := [.lit (.bool false)], args := [d1, d2] }
  | _ => none }
def FnExactDropEntryWrongFalsely : Prop := fnExactDropEntryRow.holds Try.pinned (OpenSpec.ofChange fnExactDropEntryWrong)

/-- 'laws.FnExactPutText': WHATEVER THE INPUT: true; the input reads as it did. -/
def fnExactPutTextSpec : ChangeSpec := { name := "fnExactPutText", fn := fun _ => fun
  | [d1, d2] => { results := [.lit (.bool true)], args := [d1, d2] }
  | _ => none }
def fnExactPutTextRow : OpenClaim := { program := "ytgnliaekngbmbaa", sum := "e099d5417c1516c0af8315241d269ea428df0bf2135770ba11730b089cb6cfb1", func := "loop.example/proofarchive/laws.FnExactPutText", spec := "fnExactPutText", inPlace := ["slices.overlaps[loop.example/proofarchive/impl.Piece]"], unfollowed := true, recurses := true, apart := false }
def FnExactPutTextSaid : Prop := fnExactPutTextRow.holds Try.pinned (OpenSpec.ofChange fnExactPutTextSpec)

/-- ITS FALSE NEIGHBOUR: 'it returns false'. Refute it at one input. -/
def fnExactPutTextWrong : ChangeSpec := { name := "fnExactPutText", fn := fun _ => fun
  | [d1, d2] => { results := [.lit (.bool false)], args := [d1, d2] }
  | _ => none }
def FnExactPutTextWrongFalsely : Prop := fnExactPutTextRow.holds Try.pinned (OpenSpec.ofChange fnExactPutTextWrong)

/-- 'laws.FnExactJoinStores': WHATEVER THE INPUT: true; the input reads as it did. -/
def fnExactJoinStoresSpec : ChangeSpec := { name := "fnExactJoinStores", fn := fun _ => fun
  | [d1, d2] => { results := [.lit (.bool true)], args := [d1, d2] }
  | _ => none }
def fnExactJoinStoresRow : OpenClaim := { program := "ytgnliaekngbmbaa", sum := "e099d5417c1516c0af8315241d269ea428df0bf2135770ba11730b089cb6cfb1", func := "loop.example/proofarchive/laws.FnExactJoinStores", spec := "fnExactJoinStores", inPlace := ["slices.overlaps[loop.example/proofarchive/impl.Piece]"], unfollowed := true, recurses := true, apart := false }
def FnExactJoinStoresSaid : Prop := fnExactJoinStoresRow.holds Try.pinned (OpenSpec.ofChange fnExactJoinStoresSpec)

/-- ITS FALSE NEIGHBOUR: 'it returns false'. Refute it at one input. -/
def fnExactJoinStoresWrong : ChangeSpec := { name := "fnExactJoinStores", fn := fun _ => fun
  | [d1, d2] => { results := [.lit (.bool false)], args := [d1, d2] }
  | _ => none }
def FnExactJoinStoresWrongFalsely : Prop := fnExactJoinStoresRow.holds Try.pinned (OpenSpec.ofChange fnExactJoinStoresWrong)

/- THE SECOND FORM. 'bulk': how many values and letters a reading holds, each counted each time it is reached (what is shared counts as often as it is met; a slice's spare places count too). A statement '..UptoSaid' is the law's where the arguments, and the package variables that the reading takes, are together of bulk at most 1048576: NARROWER than '..Said'. Prove '..Said' where nothing that the law and all that it calls make is longer than what came in: it says more and counts as full. Else prove '..UptoSaid'. A law counts once. -/
mutual
def uptoBulk {H : Type} : DataW H → Nat
  | .lit (.string bytes) => bytes.length + 1
  | .lit _ => 1
  | .nil => 1
  | .ptr d => uptoBulk d + 1
  | .slice elems spare => uptoBulkAll elems + uptoBulkAll spare + 1
  | .agg parts => uptoBulkAll parts + 1
  | .iface _ d => uptoBulk d + 1
  | .map entries => uptoBulkEntries entries + 1
  | .held _ => 1
def uptoBulkAll {H : Type} : List (DataW H) → Nat
  | [] => 0
  | d :: r => uptoBulk d + uptoBulkAll r
def uptoBulkEntries {H : Type} : List (Lit × DataW H) → Nat
  | [] => 0
  | x :: r => uptoBulkEntry x + uptoBulkEntries r
def uptoBulkEntry {H : Type} : Lit × DataW H → Nat
  | (.string bytes, d) => bytes.length + uptoBulk d + 1
  | (_, d) => uptoBulk d + 1
 end
def uptoSmall : (H : Type) → List (DataW H) → Bool := fun _ ds => decide (uptoBulkAll ds ≤ 1048576)
def OpenSpec.upto (s : _root_.Go.ChangeSpec) : _root_.Go.OpenSpec := { _root_.Go.OpenSpec.ofChange s with cond := some uptoSmall }

/-- 'laws.FnEntriesValid', WHERE WHAT IT READS IS OF BULK AT MOST 1048576: true; the input reads as it did. -/
def fnEntriesValidUptoRow : OpenClaim := { program := "ytgnliaekngbmbaa", sum := "e099d5417c1516c0af8315241d269ea428df0bf2135770ba11730b089cb6cfb1", func := "loop.example/proofarchive/laws.FnEntriesValid", spec := "fnEntriesValid", apart := false, narrowed := true }
def FnEntriesValidUptoSaid : Prop := fnEntriesValidUptoRow.holds Try.pinned (OpenSpec.upto fnEntriesValidSpec)

/-- 'laws.FnTreeRoot', WHERE WHAT IT READS IS OF BULK AT MOST 1048576: true; the input reads as it did. -/
def fnTreeRootUptoRow : OpenClaim := { program := "ytgnliaekngbmbaa", sum := "e099d5417c1516c0af8315241d269ea428df0bf2135770ba11730b089cb6cfb1", func := "loop.example/proofarchive/laws.FnTreeRoot", spec := "fnTreeRoot", apart := false, narrowed := true }
def FnTreeRootUptoSaid : Prop := fnTreeRootUptoRow.holds Try.pinned (OpenSpec.upto fnTreeRootSpec)

/-- 'laws.FnExactJoinPath', WHERE WHAT IT READS IS OF BULK AT MOST 1048576: true; the input reads as it did. -/
def fnExactJoinPathUptoRow : OpenClaim := { program := "ytgnliaekngbmbaa", sum := "e099d5417c1516c0af8315241d269ea428df0bf2135770ba11730b089cb6cfb1", func := "loop.example/proofarchive/laws.FnExactJoinPath", spec := "fnExactJoinPath", inPlace := ["internal/abi.NoEscape", "internal/bytealg.MakeNoZero"], apart := false, narrowed := true }
def FnExactJoinPathUptoSaid : Prop := fnExactJoinPathUptoRow.holds Try.pinned (OpenSpec.upto fnExactJoinPathSpec)

/-- 'laws.FnExactGetText', WHERE WHAT IT READS IS OF BULK AT MOST 1048576: true; the input reads as it did. -/
def fnExactGetTextUptoRow : OpenClaim := { program := "ytgnliaekngbmbaa", sum := "e099d5417c1516c0af8315241d269ea428df0bf2135770ba11730b089cb6cfb1", func := "loop.example/proofarchive/laws.FnExactGetText", spec := "fnExactGetText", unfollowed := true, recurses := true, apart := false, narrowed := true }
def FnExactGetTextUptoSaid : Prop := fnExactGetTextUptoRow.holds Try.pinned (OpenSpec.upto fnExactGetTextSpec)

/-- 'laws.FnProofRoot', WHERE WHAT IT READS IS OF BULK AT MOST 1048576: true; the input reads as it did. -/
def fnProofRootUptoRow : OpenClaim := { program := "ytgnliaekngbmbaa", sum := "e099d5417c1516c0af8315241d269ea428df0bf2135770ba11730b089cb6cfb1", func := "loop.example/proofarchive/laws.FnProofRoot", spec := "fnProofRoot", apart := false, narrowed := true }
def FnProofRootUptoSaid : Prop := fnProofRootUptoRow.holds Try.pinned (OpenSpec.upto fnProofRootSpec)

/-- 'laws.FnTreeProof', WHERE WHAT IT READS IS OF BULK AT MOST 1048576: true; the input reads as it did. -/
def fnTreeProofUptoRow : OpenClaim := { program := "ytgnliaekngbmbaa", sum := "e099d5417c1516c0af8315241d269ea428df0bf2135770ba11730b089cb6cfb1", func := "loop.example/proofarchive/laws.FnTreeProof", spec := "fnTreeProof", apart := false, narrowed := true }
def FnTreeProofUptoSaid : Prop := fnTreeProofUptoRow.holds Try.pinned (OpenSpec.upto fnTreeProofSpec)

/-- 'laws.FnDropEntry', WHERE WHAT IT READS IS OF BULK AT MOST 1048576: true; the input reads as it did. -/
def fnDropEntryUptoRow : OpenClaim := { program := "ytgnliaekngbmbaa", sum := "e099d5417c1516c0af8315241d269ea428df0bf2135770ba11730b089cb6cfb1", func := "loop.example/proofarchive/laws.FnDropEntry", spec := "fnDropEntry", unfollowed := true, recurses := true, apart := false, narrowed := true }
def FnDropEntryUptoSaid : Prop := fnDropEntryUptoRow.holds Try.pinned (OpenSpec.upto fnDropEntrySpec)

/-- 'laws.FnExactDropEntry', WHERE WHAT IT READS IS OF BULK AT MOST 1048576: true; the input reads as it did. -/
def fnExactDropEntryUptoRow : OpenClaim := { program := "ytgnliaekngbmbaa", sum := "e099d5417c1516c0af8315241d269ea428df0bf2135770ba11730b089cb6cfb1", func := "loop.example/proofarchive/laws.FnExactDropEntry", spec := "fnExactDropEntry", unfollowed := true, recurses := true, apart := false, narrowed := true }
def FnExactDropEntryUptoSaid : Prop := fnExactDropEntryUptoRow.holds Try.pinned (OpenSpec.upto fnExactDropEntrySpec)

/-- 'laws.FnExactPutText', WHERE WHAT IT READS IS OF BULK AT MOST 1048576: true; the input reads as it did. -/
def fnExactPutTextUptoRow : OpenClaim := { program := "ytgnliaekngbmbaa", sum := "e099d5417c1516c0af8315241d269ea428df0bf2135770ba11730b089cb6cfb1", func := "loop.example/proofarchive/laws.FnExactPutText", spec := "fnExactPutText", inPlace := ["slices.overlaps[loop.example/proofarchive/impl.Piece]"], unfollowed := true, recurses := true, apart := false, narrowed := true }
def FnExactPutTextUptoSaid : Prop := fnExactPutTextUptoRow.holds Try.pinned (OpenSpec.upto fnExactPutTextSpec)

/-- 'laws.FnExactJoinStores', WHERE WHAT IT READS IS OF BULK AT MOST 1048576: true; the input reads as it did. -/
def fnExactJoinStoresUptoRow : OpenClaim := { program := "ytgnliaekngbmbaa", sum := "e099d5417c1516c0af8315241d269ea428df0bf2135770ba11730b089cb6cfb1", func := "loop.example/proofarchive/laws.FnExactJoinStores", spec := "fnExactJoinStores", inPlace := ["slices.overlaps[loop.example/proofarchive/impl.Piece]"], unfollowed := true, recurses := true, apart := false, narrowed := true }
def FnExactJoinStoresUptoSaid : Prop := fnExactJoinStoresUptoRow.holds Try.pinned (OpenSpec.upto fnExactJoinStoresSpec)

end Rows
end Go.Proofs.Ytgnliaekngbmbaa
