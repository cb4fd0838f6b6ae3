/-
  No cell of these rows narrows 'for every input' (looked for: loops, veiled, ifaces, maps, wideKeys, modest, calm, conditions, laid).
  DERIVED. THE GIVEN ROWS OF THIS SEAT. 12 by the template 'for every input the law returns true; each argument reads behind the call as it read before'; 0 by the template 'total and deterministic' (their statements: YtkkihjmlinekfaaTotals.lean).
  GIVEN WITH THE SEED: the statements are not yours to turn. If you find one false, say at which input.
  Laid BY PROGRAM, IN A SANDBOX (cutbox-rows.mjs): the forced cells as the released guide's own fill.sh prints them over the translation d7a95b4d769cd8ea… (all of the seat's roots in one cut). By AI agents, Wed Nov 11 2026. No macro, syntax, notation, axiom, sorry.
-/
import Derived.Test.YtkkihjmlinekfaaChecked
import GoSem.Claim
import GoSem.ClaimJoined
import GoSem.ClaimMapViews
import Derived.JoinedTies
import Derived.KernelRfl
namespace Go.Proofs.Ytkkihjmlinekfaa
/- THE CELL 'sum', in the pinned program and in every row, IS THE sha256 OF THE DUMP (.gsa) THAT YtkkihjmlinekfaaProg.lean LOADS. Nothing in Lean hashes anything: it is a label: what it is worth is what the hold of that sum in a sandbox is worth. -/
noncomputable def Try.pinned : Pinned := { name := "ytkkihjmlinekfaa", sum := "d7a95b4d769cd8ea91ef1afa0ae0b2c6f4d06074b09e5b5732a09ac04094a4e0", checked := Try.checked }
namespace Rows
def none {H : Type} : Left H := { results := [], args := [] }

/-- 'laws.FnExactEntriesValid': WHATEVER THE INPUT: true; the input reads as it did. -/
def fnExactEntriesValidSpec : ChangeSpec := { name := "fnExactEntriesValid", fn := fun _ => fun
  | [d] => { results := [.lit (.bool true)], args := [d] }
  | _ => none }
def fnExactEntriesValidRow : OpenClaim := { program := "ytkkihjmlinekfaa", sum := "d7a95b4d769cd8ea91ef1afa0ae0b2c6f4d06074b09e5b5732a09ac04094a4e0", func := "loop.example/proofarchive/laws.FnExactEntriesValid", spec := "fnExactEntriesValid", apart := false }
def FnExactEntriesValidSaid : Prop := fnExactEntriesValidRow.holds Try.pinned (OpenSpec.ofChange fnExactEntriesValidSpec)

/-- ITS FALSE NEIGHBOUR: 'it returns false'. Refute it at one input. -/
def fnExactEntriesValidWrong : ChangeSpec := { name := "fnExactEntriesValid", fn := fun _ => fun
  | [d] => { results := [.lit (.bool false)], args := [d] }
  | _ => none }
def FnExactEntriesValidWrongFalsely : Prop := fnExactEntriesValidRow.holds Try.pinned (OpenSpec.ofChange fnExactEntriesValidWrong)

/-- 'laws.FnExactStoreValid': WHATEVER THE INPUT: true; the input reads as it did. -/
def fnExactStoreValidSpec : ChangeSpec := { name := "fnExactStoreValid", fn := fun _ => fun
  | [d] => { results := [.lit (.bool true)], args := [d] }
  | _ => none }
def fnExactStoreValidRow : OpenClaim := { program := "ytkkihjmlinekfaa", sum := "d7a95b4d769cd8ea91ef1afa0ae0b2c6f4d06074b09e5b5732a09ac04094a4e0", func := "loop.example/proofarchive/laws.FnExactStoreValid", spec := "fnExactStoreValid", apart := false }
def FnExactStoreValidSaid : Prop := fnExactStoreValidRow.holds Try.pinned (OpenSpec.ofChange fnExactStoreValidSpec)

/-- ITS FALSE NEIGHBOUR: 'it returns false'. Refute it at one input. -/
def fnExactStoreValidWrong : ChangeSpec := { name := "fnExactStoreValid", fn := fun _ => fun
  | [d] => { results := [.lit (.bool false)], args := [d] }
  | _ => none }
def FnExactStoreValidWrongFalsely : Prop := fnExactStoreValidRow.holds Try.pinned (OpenSpec.ofChange fnExactStoreValidWrong)

/-- 'laws.FnEntriesValid': WHATEVER THE INPUT: true; the input reads as it did. -/
def fnEntriesValidSpec : ChangeSpec := { name := "fnEntriesValid", fn := fun _ => fun
  | [d] => { results := [.lit (.bool true)], args := [d] }
  | _ => none }
def fnEntriesValidRow : OpenClaim := { program := "ytkkihjmlinekfaa", sum := "d7a95b4d769cd8ea91ef1afa0ae0b2c6f4d06074b09e5b5732a09ac04094a4e0", func := "loop.example/proofarchive/laws.FnEntriesValid", spec := "fnEntriesValid", apart := false }
def FnEntriesValidSaid : Prop := fnEntriesValidRow.holds Try.pinned (OpenSpec.ofChange fnEntriesValidSpec)

/-- ITS FALSE NEIGHBOUR: 'it returns false'. Refute it at one input. -/
def fnEntriesValidWrong : ChangeSpec := { name := "fnEntriesValid", fn := fun _ => fun
  | [d] => { results := [.lit (.bool false)], args := [d] }
  | _ => none }
def FnEntriesValidWrongFalsely : Prop := fnEntriesValidRow.holds Try.pinned (OpenSpec.ofChange fnEntriesValidWrong)

/-- 'laws.FnExactChunkPrints': WHATEVER THE INPUT: true; the input reads as it did. -/
def fnExactChunkPrintsSpec : ChangeSpec := { name := "fnExactChunkPrints", fn := fun _ => fun
  | [d] => { results := [.lit (.bool true)], args := [d] }
  | _ => none }
def fnExactChunkPrintsRow : OpenClaim := { program := "ytkkihjmlinekfaa", sum := "d7a95b4d769cd8ea91ef1afa0ae0b2c6f4d06074b09e5b5732a09ac04094a4e0", func := "loop.example/proofarchive/laws.FnExactChunkPrints", spec := "fnExactChunkPrints", apart := false }
def FnExactChunkPrintsSaid : Prop := fnExactChunkPrintsRow.holds Try.pinned (OpenSpec.ofChange fnExactChunkPrintsSpec)

/-- ITS FALSE NEIGHBOUR: 'it returns false'. Refute it at one input. -/
def fnExactChunkPrintsWrong : ChangeSpec := { name := "fnExactChunkPrints", fn := fun _ => fun
  | [d] => { results := [.lit (.bool false)], args := [d] }
  | _ => none }
def FnExactChunkPrintsWrongFalsely : Prop := fnExactChunkPrintsRow.holds Try.pinned (OpenSpec.ofChange fnExactChunkPrintsWrong)

/-- 'laws.FnTreeRoot': WHATEVER THE INPUT: true; the input reads as it did. -/
def fnTreeRootSpec : ChangeSpec := { name := "fnTreeRoot", fn := fun _ => fun
  | [d] => { results := [.lit (.bool true)], args := [d] }
  | _ => none }
def fnTreeRootRow : OpenClaim := { program := "ytkkihjmlinekfaa", sum := "d7a95b4d769cd8ea91ef1afa0ae0b2c6f4d06074b09e5b5732a09ac04094a4e0", func := "loop.example/proofarchive/laws.FnTreeRoot", spec := "fnTreeRoot", apart := false }
def FnTreeRootSaid : Prop := fnTreeRootRow.holds Try.pinned (OpenSpec.ofChange fnTreeRootSpec)

/-- ITS FALSE NEIGHBOUR: 'it returns false'. Refute it at one input. -/
def fnTreeRootWrong : ChangeSpec := { name := "fnTreeRoot", fn := fun _ => fun
  | [d] => { results := [.lit (.bool false)], args := [d] }
  | _ => none }
def FnTreeRootWrongFalsely : Prop := fnTreeRootRow.holds Try.pinned (OpenSpec.ofChange fnTreeRootWrong)

/-- 'laws.FnChunksOf': WHATEVER THE INPUT: true; the input reads as it did. -/
def fnChunksOfSpec : ChangeSpec := { name := "fnChunksOf", fn := fun _ => fun
  | [d] => { results := [.lit (.bool true)], args := [d] }
  | _ => none }
def fnChunksOfRow : OpenClaim := { program := "ytkkihjmlinekfaa", sum := "d7a95b4d769cd8ea91ef1afa0ae0b2c6f4d06074b09e5b5732a09ac04094a4e0", func := "loop.example/proofarchive/laws.FnChunksOf", spec := "fnChunksOf", apart := false }
def FnChunksOfSaid : Prop := fnChunksOfRow.holds Try.pinned (OpenSpec.ofChange fnChunksOfSpec)

/-- ITS FALSE NEIGHBOUR: 'it returns false'. Refute it at one input. -/
def fnChunksOfWrong : ChangeSpec := { name := "fnChunksOf", fn := fun _ => fun
  | [d] => { results := [.lit (.bool false)], args := [d] }
  | _ => none }
def FnChunksOfWrongFalsely : Prop := fnChunksOfRow.holds Try.pinned (OpenSpec.ofChange fnChunksOfWrong)

/-- 'laws.FnJoinChunks': WHATEVER THE INPUT: true; the input reads as it did. -/
def fnJoinChunksSpec : ChangeSpec := { name := "fnJoinChunks", fn := fun _ => fun
  | [d] => { results := [.lit (.bool true)], args := [d] }
  | _ => none }
def fnJoinChunksRow : OpenClaim := { program := "ytkkihjmlinekfaa", sum := "d7a95b4d769cd8ea91ef1afa0ae0b2c6f4d06074b09e5b5732a09ac04094a4e0", func := "loop.example/proofarchive/laws.FnJoinChunks", spec := "fnJoinChunks", apart := false }
def FnJoinChunksSaid : Prop := fnJoinChunksRow.holds Try.pinned (OpenSpec.ofChange fnJoinChunksSpec)

/-- ITS FALSE NEIGHBOUR: 'it returns false'. Refute it at one input. -/
def fnJoinChunksWrong : ChangeSpec := { name := "fnJoinChunks", fn := fun _ => fun
  | [d] => { results := [.lit (.bool false)], args := [d] }
  | _ => none }
def FnJoinChunksWrongFalsely : Prop := fnJoinChunksRow.holds Try.pinned (OpenSpec.ofChange fnJoinChunksWrong)

/-- 'laws.FnChunkPrints': WHATEVER THE INPUT: true; the input reads as it did. -/
def fnChunkPrintsSpec : ChangeSpec := { name := "fnChunkPrints", fn := fun _ => fun
  | [d] => { results := [.lit (.bool true)], args := [d] }
  | _ => none }
def fnChunkPrintsRow : OpenClaim := { program := "ytkkihjmlinekfaa", sum := "d7a95b4d769cd8ea91ef1afa0ae0b2c6f4d06074b09e5b5732a09ac04094a4e0", func := "loop.example/proofarchive/laws.FnChunkPrints", spec := "fnChunkPrints", apart := false }
def FnChunkPrintsSaid : Prop := fnChunkPrintsRow.holds Try.pinned (OpenSpec.ofChange fnChunkPrintsSpec)

/-- ITS FALSE NEIGHBOUR: 'it returns false'. Refute it at one input. -/
def fnChunkPrintsWrong : ChangeSpec := { name := "fnChunkPrints", fn := fun _ => fun
  | [d] => { results := [.lit (.bool false)], args := [d] }
  | _ => none }
def FnChunkPrintsWrongFalsely : Prop := fnChunkPrintsRow.holds Try.pinned (OpenSpec.ofChange fnChunkPrintsWrong)

/-- 'laws.FnExactGetText': WHATEVER THE INPUT: true; the input reads as it did. -/
def fnExactGetTextSpec : ChangeSpec := { name := "fnExactGetText", fn := fun _ => fun
  | [d1, d2] => { results := [.lit (.bool true)], args := [d1, d2] }
  | _ => none }
def fnExactGetTextRow : OpenClaim := { program := "ytkkihjmlinekfaa", sum := "d7a95b4d769cd8ea91ef1afa0ae0b2c6f4d06074b09e5b5732a09ac04094a4e0", func := "loop.example/proofarchive/laws.FnExactGetText", spec := "fnExactGetText", unfollowed := true, recurses := true, apart := false }
def FnExactGetTextSaid : Prop := fnExactGetTextRow.holds Try.pinned (OpenSpec.ofChange fnExactGetTextSpec)

/-- ITS FALSE NEIGHBOUR: 'it returns false'. Refute it at one input. -/
def fnExactGetTextWrong : ChangeSpec := { name := "fnExactGetText", fn := fun _ => fun
  | [d1, d2] => { results := [.lit (.bool false)], args := [d1, d2] }
  | _ => none }
def FnExactGetTextWrongFalsely : Prop := fnExactGetTextRow.holds Try.pinned (OpenSpec.ofChange fnExactGetTextWrong)

/-- 'laws.FnProofRoot': WHATEVER THE INPUT: true; the input reads as it did. -/
def fnProofRootSpec : ChangeSpec := { name := "fnProofRoot", fn := fun _ => fun
  | [d] => { results := [.lit (.bool true)], args := [d] }
  | _ => none }
def fnProofRootRow : OpenClaim := { program := "ytkkihjmlinekfaa", sum := "d7a95b4d769cd8ea91ef1afa0ae0b2c6f4d06074b09e5b5732a09ac04094a4e0", func := "loop.example/proofarchive/laws.FnProofRoot", spec := "fnProofRoot", apart := false }
def FnProofRootSaid : Prop := fnProofRootRow.holds Try.pinned (OpenSpec.ofChange fnProofRootSpec)

/-- ITS FALSE NEIGHBOUR: 'it returns false'. Refute it at one input. -/
def fnProofRootWrong : ChangeSpec := { name := "fnProofRoot", fn := fun _ => fun
  | [d] => { results := [.lit (.bool false)], args := [d] }
  | _ => none }
def FnProofRootWrongFalsely : Prop := fnProofRootRow.holds Try.pinned (OpenSpec.ofChange fnProofRootWrong)

/-- 'laws.FnTreeProof': WHATEVER THE INPUT: true; the input reads as it did. -/
def fnTreeProofSpec : ChangeSpec := { name := "fnTreeProof", fn := fun _ => fun
  | [d] => { results := [.lit (.bool true)], args := [d] }
  | _ => none }
def fnTreeProofRow : OpenClaim := { program := "ytkkihjmlinekfaa", sum := "d7a95b4d769cd8ea91ef1afa0ae0b2c6f4d06074b09e5b5732a09ac04094a4e0", func := "loop.example/proofarchive/laws.FnTreeProof", spec := "fnTreeProof", apart := false }
def FnTreeProofSaid : Prop := fnTreeProofRow.holds Try.pinned (OpenSpec.ofChange fnTreeProofSpec)

/-- ITS FALSE NEIGHBOUR: 'it returns false'. Refute it at one input. -/
def fnTreeProofWrong : ChangeSpec := { name := "fnTreeProof", fn := fun _ => fun
  | [d] => { results := [.lit (.bool false)], args := [d] }
  | _ => none }
def FnTreeProofWrongFalsely : Prop := fnTreeProofRow.holds Try.pinned (OpenSpec.ofChange fnTreeProofWrong)

/-- 'laws.FnExactJoinPath': WHATEVER THE INPUT: true; the input reads as it did. -/
def fnExactJoinPathSpec : ChangeSpec := { name := "fnExactJoinPath", fn := fun _ => fun
  | [d] => { results := [.lit (.bool true)], args := [d] }
  | _ => none }
def fnExactJoinPathRow : OpenClaim := { program := "ytkkihjmlinekfaa", sum := "d7a95b4d769cd8ea91ef1afa0ae0b2c6f4d06074b09e5b5732a09ac04094a4e0", func := "loop.example/proofarchive/laws.FnExactJoinPath", spec := "fnExactJoinPath", inPlace := ["internal/abi.NoEscape", "internal/bytealg.MakeNoZero"], apart := false }
def FnExactJoinPathSaid : Prop := fnExactJoinPathRow.holds Try.pinned (OpenSpec.ofChange fnExactJoinPathSpec)

/-- ITS FALSE NEIGHBOUR: 'it returns false'. Refute it at one input. -/
def fnExactJoinPathWrong : ChangeSpec := { name := "fnExactJoinPath", fn := fun _ => fun
  | [d] => { results := [.lit (.bool false)], args := [d] }
  | _ => none }
def FnExactJoinPathWrongFalsely : Prop := fnExactJoinPathRow.holds Try.pinned (OpenSpec.ofChange fnExactJoinPathWrong)

/- THE SECOND FORM. 'bulk': how many values and letters a reading holds, each counted each time it is reached (what is shared counts as often as it is met; a slice's spare places count too). A statement '..UptoSaid' is the law's where the arguments, and the package variables that the reading takes, are together of bulk at most 1048576: NARROWER than '..Said'. Prove '..Said' where nothing that the law and all that it calls make is longer than what came in: it says more and counts as full. Else prove '..UptoSaid'. A law counts once. -/
mutual
def uptoBulk {H : Type} : DataW H → Nat
  | .lit (.string bytes) => bytes.length + 1
  | .lit _ => 1
  | .nil => 1
  | .ptr d => uptoBulk d + 1
  | .slice elems spare => uptoBulkAll elems + uptoBulkAll spare + 1
  | .agg parts => uptoBulkAll parts + 1
  | .iface _ d => uptoBulk d + 1
  | .map entries => uptoBulkEntries entries + 1
  | .held _ => 1
def uptoBulkAll {H : Type} : List (DataW H) → Nat
  | [] => 0
  | d :: r => uptoBulk d + uptoBulkAll r
def uptoBulkEntries {H : Type} : List (Lit × DataW H) → Nat
  | [] => 0
  | x :: r => uptoBulkEntry x + uptoBulkEntries r
def uptoBulkEntry {H : Type} : Lit × DataW H → Nat
  | (.string bytes, d) => bytes.length + uptoBulk d + 1
  | (_, d) => uptoBulk d + 1
 end
def uptoSmall : (H : Type) → List (DataW H) → Bool := fun _ ds => decide (uptoBulkAll ds ≤ 1048576)
def OpenSpec.upto (s : _root_.Go.ChangeSpec) : _root_.Go.OpenSpec := { _root_.Go.OpenSpec.ofChange s with cond := some uptoSmall }

/-- 'laws.FnExactEntriesValid', WHERE WHAT IT READS IS OF BULK AT MOST 1048576: true; the input reads as it did. -/
def fnExactEntriesValidUptoRow : OpenClaim := { program := "ytkkihjmlinekfaa", sum := "d7a95b4d769cd8ea91ef1afa0ae0b2c6f4d06074b09e5b5732a09ac04094a4e0", func := "loop.example/proofarchive/laws.FnExactEntriesValid", spec := "fnExactEntriesValid", apart := false, narrowed := true }
def FnExactEntriesValidUptoSaid : Prop := fnExactEntriesValidUptoRow.holds Try.pinned (OpenSpec.upto fnExactEntriesValidSpec)

/-- 'laws.FnExactStoreValid', WHERE WHAT IT READS IS OF BULK AT MOST 1048576: true; the input reads as it did. -/
def fnExactStoreValidUptoRow : OpenClaim := { program := "ytkkihjmlinekfaa", sum := "d7a95b4d769cd8ea91ef1afa0ae0b2c6f4d06074b09e5b5732a09ac04094a4e0", func := "loop.example/proofarchive/laws.FnExactStoreValid", spec := "fnExactStoreValid", apart := false, narrowed := true }
def FnExactStoreValidUptoSaid : Prop := fnExactStoreValidUptoRow.holds Try.pinned (OpenSpec.upto fnExactStoreValidSpec)

/-- 'laws.FnEntriesValid', WHERE WHAT IT READS IS OF BULK AT MOST 1048576: true; the input reads as it did. -/
def fnEntriesValidUptoRow : OpenClaim := { program := "ytkkihjmlinekfaa", sum := "d7a95b4d769cd8ea91ef1afa0ae0b2c6f4d06074b09e5b5732a09ac04094a4e0", func := "loop.example/proofarchive/laws.FnEntriesValid", spec := "fnEntriesValid", apart := false, narrowed := true }
def FnEntriesValidUptoSaid : Prop := fnEntriesValidUptoRow.holds Try.pinned (OpenSpec.upto fnEntriesValidSpec)

/-- 'laws.FnExactChunkPrints', WHERE WHAT IT READS IS OF BULK AT MOST 1048576: true; the input reads as it did. -/
def fnExactChunkPrintsUptoRow : OpenClaim := { program := "ytkkihjmlinekfaa", sum := "d7a95b4d769cd8ea91ef1afa0ae0b2c6f4d06074b09e5b5732a09ac04094a4e0", func := "loop.example/proofarchive/laws.FnExactChunkPrints", spec := "fnExactChunkPrints", apart := false, narrowed := true }
def FnExactChunkPrintsUptoSaid : Prop := fnExactChunkPrintsUptoRow.holds Try.pinned (OpenSpec.upto fnExactChunkPrintsSpec)

/-- 'laws.FnTreeRoot', WHERE WHAT IT READS IS OF BULK AT MOST 1048576: true; the input reads as it did. -/
def fnTreeRootUptoRow : OpenClaim := { program := "ytkkihjmlinekfaa", sum := "d7a95b4d769cd8ea91ef1afa0ae0b2c6f4d06074b09e5b5732a09ac04094a4e0", func := "loop.example/proofarchive/laws.FnTreeRoot", spec := "fnTreeRoot", apart := false, narrowed := true }
def FnTreeRootUptoSaid : Prop := fnTreeRootUptoRow.holds Try.pinned (OpenSpec.upto fnTreeRootSpec)

/-- 'laws.FnChunksOf', WHERE WHAT IT READS IS OF BULK AT MOST 1048576: true; the input reads as it did. -/
def fnChunksOfUptoRow : OpenClaim := { program := "ytkkihjmlinekfaa", sum := "d7a95b4d769cd8ea91ef1afa0ae0b2c6f4d06074b09e5b5732a09ac04094a4e0", func := "loop.example/proofarchive/laws.FnChunksOf", spec := "fnChunksOf", apart := false, narrowed := true }
def FnChunksOfUptoSaid : Prop := fnChunksOfUptoRow.holds Try.pinned (OpenSpec.upto fnChunksOfSpec)

/-- 'laws.FnJoinChunks', WHERE WHAT IT READS IS OF BULK AT MOST 1048576: true; the input reads as it did. -/
def fnJoinChunksUptoRow : OpenClaim := { program := "ytkkihjmlinekfaa", sum := "d7a95b4d769cd8ea91ef1afa0ae0b2c6f4d06074b09e5b5732a09ac04094a4e0", func := "loop.example/proofarchive/laws.FnJoinChunks", spec := "fnJoinChunks", apart := false, narrowed := true }
def FnJoinChunksUptoSaid : Prop := fnJoinChunksUptoRow.holds Try.pinned (OpenSpec.upto fnJoinChunksSpec)

/-- 'laws.FnChunkPrints', WHERE WHAT IT READS IS OF BULK AT MOST 1048576: true; the input reads as it did. -/
def fnChunkPrintsUptoRow : OpenClaim := { program := "ytkkihjmlinekfaa", sum := "d7a95b4d769cd8ea91ef1afa0ae0b2c6f4d06074b09e5b5732a09ac04094a4e0", func := "loop.example/proofarchive/laws.FnChunkPrints", spec := "fnChunkPrints", apart := false, narrowed := true }
def FnChunkPrintsUptoSaid : Prop := fnChunkPrintsUptoRow.holds Try.pinned (OpenSpec.upto fnChunkPrintsSpec)

/-- 'laws.FnExactGetText', WHERE WHAT IT READS IS OF BULK AT MOST 1048576: true; the input reads as it did. -/
def fnExactGetTextUptoRow : OpenClaim := { program := "ytkkihjmlinekfaa", sum := "d7a95b4d769cd8ea91ef1afa0ae0b2c6f4d06074b09e5b5732a09ac04094a4e0", func := "loop.example/proofarchive/laws.FnExactGetText", spec := "fnExactGetText", unfollowed := true, recurses := true, apart := false, narrowed := true }
def FnExactGetTextUptoSaid : Prop := fnExactGetTextUptoRow.holds Try.pinned (OpenSpec.upto fnExactGetTextSpec)

/-- 'laws.FnProofRoot', WHERE WHAT IT READS IS OF BULK AT MOST 1048576: true; the input reads as it did. -/
def fnProofRootUptoRow : OpenClaim := { program := "ytkkihjmlinekfaa", sum := "d7a95b4d769cd8ea91ef1afa0ae0b2c6f4d06074b09e5b5732a09ac04094a4e0", func := "loop.example/proofarchive/laws.FnProofRoot", spec := "fnProofRoot", apart := false, narrowed := true }
def FnProofRootUptoSaid : Prop := fnProofRootUptoRow.holds Try.pinned (OpenSpec.upto fnProofRootSpec)

/-- 'laws.FnTreeProof', WHERE WHAT IT READS IS OF BULK AT MOST 1048576: true; the input reads as it did. -/
def fnTreeProofUptoRow : OpenClaim := { program := "ytkkihjmlinekfaa", sum := "d7a95b4d769cd8ea91ef1afa0ae0b2c6f4d06074b09e5b5732a09ac04094a4e0", func := "loop.example/proofarchive/laws.FnTreeProof", spec := "fnTreeProof", apart := false, narrowed := true }
def FnTreeProofUptoSaid : Prop := fnTreeProofUptoRow.holds Try.pinned (OpenSpec.upto fnTreeProofSpec)

/-- 'laws.FnExactJoinPath', WHERE WHAT IT READS IS OF BULK AT MOST 1048576: true; the input reads as it did. -/
def fnExactJoinPathUptoRow : OpenClaim := { program := "ytkkihjmlinekfaa", sum := "d7a95b4d769cd8ea91ef1afa0ae0b2c6f4d06074b09e5b5732a09ac04094a4e0", func := "loop.example/proofarchive/laws.FnExactJoinPath", spec := "fnExactJoinPath", inPlace := ["internal/abi.NoEscape", "internal/bytealg.MakeNoZero"], apart := false, narrowed := true }
def FnExactJoinPathUptoSaid : Prop := fnExactJoinPathUptoRow.holds Try.pinned (OpenSpec.upto fnExactJoinPathSpec)

end Rows
end Go.Proofs.Ytkkihjmlinekfaa
