/-
  No cell of these rows narrows 'for every input' (looked for: loops, veiled, ifaces, maps, wideKeys, modest, calm, conditions, laid).
  DERIVED. THE GIVEN ROWS OF THIS SEAT. 12 by the template 'for every input the law returns true; each argument reads behind the call as it read before'; 0 by the template 'total and deterministic' (their statements: YtnbdhmjgckomcaaTotals.lean).
  GIVEN WITH THE SEED: the statements are not yours to turn. If you find one false, say at which input.
  Laid BY PROGRAM, IN A SANDBOX (cutbox-rows.mjs): the forced cells as the released guide's own fill.sh prints them over the translation 680a9f7c96292332… (all of the seat's roots in one cut). By AI agents, Wed Nov 11 2026. No macro, syntax, notation, axiom, sorry.
-/
import Derived.Test.YtnbdhmjgckomcaaChecked
import GoSem.Claim
import GoSem.ClaimJoined
import GoSem.ClaimMapViews
import Derived.JoinedTies
import Derived.KernelRfl
namespace Go.Proofs.Ytnbdhmjgckomcaa
/- THE CELL 'sum', in the pinned program and in every row, IS THE sha256 OF THE DUMP (.gsa) THAT YtnbdhmjgckomcaaProg.lean LOADS. Nothing in Lean hashes anything: it is a label: what it is worth is what the hold of that sum in a sandbox is worth. -/
noncomputable def Try.pinned : Pinned := { name := "ytnbdhmjgckomcaa", sum := "680a9f7c96292332c60da21713d1fe0975eb9d6302fe55185075142dd8bb9c96", checked := Try.checked }
namespace Rows
def none {H : Type} : Left H := { results := [], args := [] }

/-- 'laws.FnExactJoinChunks': WHATEVER THE INPUT: true; the input reads as it did. -/
def fnExactJoinChunksSpec : ChangeSpec := { name := "fnExactJoinChunks", fn := fun _ => fun
  | [d] => { results := [.lit (.bool true)], args := [d] }
  | _ => none }
def fnExactJoinChunksRow : OpenClaim := { program := "ytnbdhmjgckomcaa", sum := "680a9f7c96292332c60da21713d1fe0975eb9d6302fe55185075142dd8bb9c96", func := "loop.example/proofarchive/laws.FnExactJoinChunks", spec := "fnExactJoinChunks", apart := false }
def FnExactJoinChunksSaid : Prop := fnExactJoinChunksRow.holds Try.pinned (OpenSpec.ofChange fnExactJoinChunksSpec)

/-- ITS FALSE NEIGHBOUR: 'it returns false'. Refute it at one input. -/
def fnExactJoinChunksWrong : ChangeSpec := { name := "fnExactJoinChunks", fn := fun _ => fun
  | [d] => { results := [.lit (.bool false)], args := [d] }
  | _ => none }
def FnExactJoinChunksWrongFalsely : Prop := fnExactJoinChunksRow.holds Try.pinned (OpenSpec.ofChange fnExactJoinChunksWrong)

/-- 'laws.FnExactChunkEnds': WHATEVER THE INPUT: true; the input reads as it did. -/
def fnExactChunkEndsSpec : ChangeSpec := { name := "fnExactChunkEnds", fn := fun _ => fun
  | [d] => { results := [.lit (.bool true)], args := [d] }
  | _ => none }
def fnExactChunkEndsRow : OpenClaim := { program := "ytnbdhmjgckomcaa", sum := "680a9f7c96292332c60da21713d1fe0975eb9d6302fe55185075142dd8bb9c96", func := "loop.example/proofarchive/laws.FnExactChunkEnds", spec := "fnExactChunkEnds", apart := false }
def FnExactChunkEndsSaid : Prop := fnExactChunkEndsRow.holds Try.pinned (OpenSpec.ofChange fnExactChunkEndsSpec)

/-- ITS FALSE NEIGHBOUR: 'it returns false'. Refute it at one input. -/
def fnExactChunkEndsWrong : ChangeSpec := { name := "fnExactChunkEnds", fn := fun _ => fun
  | [d] => { results := [.lit (.bool false)], args := [d] }
  | _ => none }
def FnExactChunkEndsWrongFalsely : Prop := fnExactChunkEndsRow.holds Try.pinned (OpenSpec.ofChange fnExactChunkEndsWrong)

/-- 'laws.FnContentValid': WHATEVER THE INPUT: true; the input reads as it did. -/
def fnContentValidSpec : ChangeSpec := { name := "fnContentValid", fn := fun _ => fun
  | [d] => { results := [.lit (.bool true)], args := [d] }
  | _ => none }
def fnContentValidRow : OpenClaim := { program := "ytnbdhmjgckomcaa", sum := "680a9f7c96292332c60da21713d1fe0975eb9d6302fe55185075142dd8bb9c96", func := "loop.example/proofarchive/laws.FnContentValid", spec := "fnContentValid", apart := false }
def FnContentValidSaid : Prop := fnContentValidRow.holds Try.pinned (OpenSpec.ofChange fnContentValidSpec)

/-- ITS FALSE NEIGHBOUR: 'it returns false'. Refute it at one input. -/
def fnContentValidWrong : ChangeSpec := { name := "fnContentValid", fn := fun _ => fun
  | [d] => { results := [.lit (.bool false)], args := [d] }
  | _ => none }
def FnContentValidWrongFalsely : Prop := fnContentValidRow.holds Try.pinned (OpenSpec.ofChange fnContentValidWrong)

/-- 'laws.FnExactProofRoot': WHATEVER THE INPUT: true; the input reads as it did. -/
def fnExactProofRootSpec : ChangeSpec := { name := "fnExactProofRoot", fn := fun _ => fun
  | [d1, d2, d3, d4] => { results := [.lit (.bool true)], args := [d1, d2, d3, d4] }
  | _ => none }
def fnExactProofRootRow : OpenClaim := { program := "ytnbdhmjgckomcaa", sum := "680a9f7c96292332c60da21713d1fe0975eb9d6302fe55185075142dd8bb9c96", func := "loop.example/proofarchive/laws.FnExactProofRoot", spec := "fnExactProofRoot", apart := false }
def FnExactProofRootSaid : Prop := fnExactProofRootRow.holds Try.pinned (OpenSpec.ofChange fnExactProofRootSpec)

/-- ITS FALSE NEIGHBOUR: 'it returns false'. Refute it at one input. -/
def fnExactProofRootWrong : ChangeSpec := { name := "fnExactProofRoot", fn := fun _ => fun
  | [d1, d2, d3, d4] => { results := [.lit (.bool false)], args := [d1, d2, d3, d4] }
  | _ => none }
def FnExactProofRootWrongFalsely : Prop := fnExactProofRootRow.holds Try.pinned (OpenSpec.ofChange fnExactProofRootWrong)

/-- 'laws.FnPrintOf': WHATEVER THE INPUT: true; the input reads as it did. -/
def fnPrintOfSpec : ChangeSpec := { name := "fnPrintOf", fn := fun _ => fun
  | [d] => { results := [.lit (.bool true)], args := [d] }
  | _ => none }
def fnPrintOfRow : OpenClaim := { program := "ytnbdhmjgckomcaa", sum := "680a9f7c96292332c60da21713d1fe0975eb9d6302fe55185075142dd8bb9c96", func := "loop.example/proofarchive/laws.FnPrintOf", spec := "fnPrintOf", apart := false }
def FnPrintOfSaid : Prop := fnPrintOfRow.holds Try.pinned (OpenSpec.ofChange fnPrintOfSpec)

/-- ITS FALSE NEIGHBOUR: 'it returns false'. Refute it at one input. -/
def fnPrintOfWrong : ChangeSpec := { name := "fnPrintOf", fn := fun _ => fun
  | [d] => { results := [.lit (.bool false)], args := [d] }
  | _ => none }
def FnPrintOfWrongFalsely : Prop := fnPrintOfRow.holds Try.pinned (OpenSpec.ofChange fnPrintOfWrong)

/-- 'laws.FnExactTreeRoot': WHATEVER THE INPUT: true; the input reads as it did. -/
def fnExactTreeRootSpec : ChangeSpec := { name := "fnExactTreeRoot", fn := fun _ => fun
  | [d] => { results := [.lit (.bool true)], args := [d] }
  | _ => none }
def fnExactTreeRootRow : OpenClaim := { program := "ytnbdhmjgckomcaa", sum := "680a9f7c96292332c60da21713d1fe0975eb9d6302fe55185075142dd8bb9c96", func := "loop.example/proofarchive/laws.FnExactTreeRoot", spec := "fnExactTreeRoot", apart := false }
def FnExactTreeRootSaid : Prop := fnExactTreeRootRow.holds Try.pinned (OpenSpec.ofChange fnExactTreeRootSpec)

/-- ITS FALSE NEIGHBOUR: 'it returns false'. Refute it at one input. -/
def fnExactTreeRootWrong : ChangeSpec := { name := "fnExactTreeRoot", fn := fun _ => fun
  | [d] => { results := [.lit (.bool false)], args := [d] }
  | _ => none }
def FnExactTreeRootWrongFalsely : Prop := fnExactTreeRootRow.holds Try.pinned (OpenSpec.ofChange fnExactTreeRootWrong)

/-- 'laws.FnExactChunksOf': WHATEVER THE INPUT: true; the input reads as it did. -/
def fnExactChunksOfSpec : ChangeSpec := { name := "fnExactChunksOf", fn := fun _ => fun
  | [d] => { results := [.lit (.bool true)], args := [d] }
  | _ => none }
def fnExactChunksOfRow : OpenClaim := { program := "ytnbdhmjgckomcaa", sum := "680a9f7c96292332c60da21713d1fe0975eb9d6302fe55185075142dd8bb9c96", func := "loop.example/proofarchive/laws.FnExactChunksOf", spec := "fnExactChunksOf", apart := false }
def FnExactChunksOfSaid : Prop := fnExactChunksOfRow.holds Try.pinned (OpenSpec.ofChange fnExactChunksOfSpec)

/-- ITS FALSE NEIGHBOUR: 'it returns false'. Refute it at one input. -/
def fnExactChunksOfWrong : ChangeSpec := { name := "fnExactChunksOf", fn := fun _ => fun
  | [d] => { results := [.lit (.bool false)], args := [d] }
  | _ => none }
def FnExactChunksOfWrongFalsely : Prop := fnExactChunksOfRow.holds Try.pinned (OpenSpec.ofChange fnExactChunksOfWrong)

/-- 'laws.FnFileText': WHATEVER THE INPUT: true; the input reads as it did. -/
def fnFileTextSpec : ChangeSpec := { name := "fnFileText", fn := fun _ => fun
  | [d] => { results := [.lit (.bool true)], args := [d] }
  | _ => none }
def fnFileTextRow : OpenClaim := { program := "ytnbdhmjgckomcaa", sum := "680a9f7c96292332c60da21713d1fe0975eb9d6302fe55185075142dd8bb9c96", func := "loop.example/proofarchive/laws.FnFileText", spec := "fnFileText", apart := false }
def FnFileTextSaid : Prop := fnFileTextRow.holds Try.pinned (OpenSpec.ofChange fnFileTextSpec)

/-- ITS FALSE NEIGHBOUR: 'it returns false'. Refute it at one input. -/
def fnFileTextWrong : ChangeSpec := { name := "fnFileText", fn := fun _ => fun
  | [d] => { results := [.lit (.bool false)], args := [d] }
  | _ => none }
def FnFileTextWrongFalsely : Prop := fnFileTextRow.holds Try.pinned (OpenSpec.ofChange fnFileTextWrong)

/-- 'laws.FnReadFile': WHATEVER THE INPUT: true; the input reads as it did. -/
def fnReadFileSpec : ChangeSpec := { name := "fnReadFile", fn := fun _ => fun
  | [d] => { results := [.lit (.bool true)], args := [d] }
  | _ => none }
def fnReadFileRow : OpenClaim := { program := "ytnbdhmjgckomcaa", sum := "680a9f7c96292332c60da21713d1fe0975eb9d6302fe55185075142dd8bb9c96", func := "loop.example/proofarchive/laws.FnReadFile", spec := "fnReadFile", apart := false }
def FnReadFileSaid : Prop := fnReadFileRow.holds Try.pinned (OpenSpec.ofChange fnReadFileSpec)

/-- ITS FALSE NEIGHBOUR: 'it returns false'. Refute it at one input. -/
def fnReadFileWrong : ChangeSpec := { name := "fnReadFile", fn := fun _ => fun
  | [d] => { results := [.lit (.bool false)], args := [d] }
  | _ => none }
def FnReadFileWrongFalsely : Prop := fnReadFileRow.holds Try.pinned (OpenSpec.ofChange fnReadFileWrong)

/-- 'laws.FnPrintList': WHATEVER THE INPUT: true; the input reads as it did. -/
def fnPrintListSpec : ChangeSpec := { name := "fnPrintList", fn := fun _ => fun
  | [d] => { results := [.lit (.bool true)], args := [d] }
  | _ => none }
def fnPrintListRow : OpenClaim := { program := "ytnbdhmjgckomcaa", sum := "680a9f7c96292332c60da21713d1fe0975eb9d6302fe55185075142dd8bb9c96", func := "loop.example/proofarchive/laws.FnPrintList", spec := "fnPrintList", apart := false }
def FnPrintListSaid : Prop := fnPrintListRow.holds Try.pinned (OpenSpec.ofChange fnPrintListSpec)

/-- ITS FALSE NEIGHBOUR: 'it returns false'. Refute it at one input. -/
def fnPrintListWrong : ChangeSpec := { name := "fnPrintList", fn := fun _ => fun
  | [d] => { results := [.lit (.bool false)], args := [d] }
  | _ => none }
def FnPrintListWrongFalsely : Prop := fnPrintListRow.holds Try.pinned (OpenSpec.ofChange fnPrintListWrong)

/-- 'laws.FnChunkEnds': WHATEVER THE INPUT: true; the input reads as it did. -/
def fnChunkEndsSpec : ChangeSpec := { name := "fnChunkEnds", fn := fun _ => fun
  | [d] => { results := [.lit (.bool true)], args := [d] }
  | _ => none }
def fnChunkEndsRow : OpenClaim := { program := "ytnbdhmjgckomcaa", sum := "680a9f7c96292332c60da21713d1fe0975eb9d6302fe55185075142dd8bb9c96", func := "loop.example/proofarchive/laws.FnChunkEnds", spec := "fnChunkEnds", apart := false }
def FnChunkEndsSaid : Prop := fnChunkEndsRow.holds Try.pinned (OpenSpec.ofChange fnChunkEndsSpec)

/-- ITS FALSE NEIGHBOUR: 'it returns false'. Refute it at one input. -/
def fnChunkEndsWrong : ChangeSpec := { name := "fnChunkEnds", fn := fun _ => fun
  | [d] => { results := [.lit (.bool false)], args := [d] }
  | _ => none }
def FnChunkEndsWrongFalsely : Prop := fnChunkEndsRow.holds Try.pinned (OpenSpec.ofChange fnChunkEndsWrong)

/-- 'laws.FnExactTreeProof': WHATEVER THE INPUT: true; the input reads as it did. -/
def fnExactTreeProofSpec : ChangeSpec := { name := "fnExactTreeProof", fn := fun _ => fun
  | [d1, d2] => { results := [.lit (.bool true)], args := [d1, d2] }
  | _ => none }
def fnExactTreeProofRow : OpenClaim := { program := "ytnbdhmjgckomcaa", sum := "680a9f7c96292332c60da21713d1fe0975eb9d6302fe55185075142dd8bb9c96", func := "loop.example/proofarchive/laws.FnExactTreeProof", spec := "fnExactTreeProof", apart := false }
def FnExactTreeProofSaid : Prop := fnExactTreeProofRow.holds Try.pinned (OpenSpec.ofChange fnExactTreeProofSpec)

/-- ITS FALSE NEIGHBOUR: 'it returns false'. Refute it at one input. -/
def fnExactTreeProofWrong : ChangeSpec := { name := "fnExactTreeProof", fn := fun _ => fun
  | [d1, d2] => { results := [.lit (.bool false)], args := [d1, d2] }
  | _ => none }
def FnExactTreeProofWrongFalsely : Prop := fnExactTreeProofRow.holds Try.pinned (OpenSpec.ofChange fnExactTreeProofWrong)

/- THE SECOND FORM. 'bulk': how many values and letters a reading holds, each counted each time it is reached (what is shared counts as often as it is met; a slice's spare places count too). A statement '..UptoSaid' is the law's where the arguments, and the package variables that the reading takes, are together of bulk at most 1048576: NARROWER than '..Said'. Prove '..Said' where nothing that the law and all that it calls make is longer than what came in: it says more and counts as full. Else prove '..UptoSaid'. A law counts once. -/
mutual
def uptoBulk {H : Type} : DataW H → Nat
  | .lit (.string bytes) => bytes.length + 1
  | .lit _ => 1
  | .nil => 1
  | .ptr d => uptoBulk d + 1
  | .slice elems spare => uptoBulkAll elems + uptoBulkAll spare + 1
  | .agg parts => uptoBulkAll parts + 1
  | .iface _ d => uptoBulk d + 1
  | .map entries => uptoBulkEntries entries + 1
  | .held _ => 1
def uptoBulkAll {H : Type} : List (DataW H) → Nat
  | [] => 0
  | d :: r => uptoBulk d + uptoBulkAll r
def uptoBulkEntries {H : Type} : List (Lit × DataW H) → Nat
  | [] => 0
  | x :: r => uptoBulkEntry x + uptoBulkEntries r
def uptoBulkEntry {H : Type} : Lit × DataW H → Nat
  | (.string bytes, d) => bytes.length + uptoBulk d + 1
  | (_, d) => uptoBulk d + 1
 end
def uptoSmall : (H : Type) → List (DataW H) → Bool := fun _ ds => decide (uptoBulkAll ds ≤ 1048576)
def OpenSpec.upto (s : _root_.Go.ChangeSpec) : _root_.Go.OpenSpec := { _root_.Go.OpenSpec.ofChange s with cond := some uptoSmall }

/-- 'laws.FnExactJoinChunks', WHERE WHAT IT READS IS OF BULK AT MOST 1048576: true; the input reads as it did. -/
def fnExactJoinChunksUptoRow : OpenClaim := { program := "ytnbdhmjgckomcaa", sum := "680a9f7c96292332c60da21713d1fe0975eb9d6302fe55185075142dd8bb9c96", func := "loop.example/proofarchive/laws.FnExactJoinChunks", spec := "fnExactJoinChunks", apart := false, narrowed := true }
def FnExactJoinChunksUptoSaid : Prop := fnExactJoinChunksUptoRow.holds Try.pinned (OpenSpec.upto fnExactJoinChunksSpec)

/-- 'laws.FnExactChunkEnds', WHERE WHAT IT READS IS OF BULK AT MOST 1048576: true; the input reads as it did. -/
def fnExactChunkEndsUptoRow : OpenClaim := { program := "ytnbdhmjgckomcaa", sum := "680a9f7c96292332c60da21713d1fe0975eb9d6302fe55185075142dd8bb9c96", func := "loop.example/proofarchive/laws.FnExactChunkEnds", spec := "fnExactChunkEnds", apart := false, narrowed := true }
def FnExactChunkEndsUptoSaid : Prop := fnExactChunkEndsUptoRow.holds Try.pinned (OpenSpec.upto fnExactChunkEndsSpec)

/-- 'laws.FnContentValid', WHERE WHAT IT READS IS OF BULK AT MOST 1048576: true; the input reads as it did. -/
def fnContentValidUptoRow : OpenClaim := { program := "ytnbdhmjgckomcaa", sum := "680a9f7c96292332c60da21713d1fe0975eb9d6302fe55185075142dd8bb9c96", func := "loop.example/proofarchive/laws.FnContentValid", spec := "fnContentValid", apart := false, narrowed := true }
def FnContentValidUptoSaid : Prop := fnContentValidUptoRow.holds Try.pinned (OpenSpec.upto fnContentValidSpec)

/-- 'laws.FnExactProofRoot', WHERE WHAT IT READS IS OF BULK AT MOST 1048576: true; the input reads as it did. -/
def fnExactProofRootUptoRow : OpenClaim := { program := "ytnbdhmjgckomcaa", sum := "680a9f7c96292332c60da21713d1fe0975eb9d6302fe55185075142dd8bb9c96", func := "loop.example/proofarchive/laws.FnExactProofRoot", spec := "fnExactProofRoot", apart := false, narrowed := true }
def FnExactProofRootUptoSaid : Prop := fnExactProofRootUptoRow.holds Try.pinned (OpenSpec.upto fnExactProofRootSpec)

/-- 'laws.FnPrintOf', WHERE WHAT IT READS IS OF BULK AT MOST 1048576: true; the input reads as it did. -/
def fnPrintOfUptoRow : OpenClaim := { program := "ytnbdhmjgckomcaa", sum := "680a9f7c96292332c60da21713d1fe0975eb9d6302fe55185075142dd8bb9c96", func := "loop.example/proofarchive/laws.FnPrintOf", spec := "fnPrintOf", apart := false, narrowed := true }
def FnPrintOfUptoSaid : Prop := fnPrintOfUptoRow.holds Try.pinned (OpenSpec.upto fnPrintOfSpec)

/-- 'laws.FnExactTreeRoot', WHERE WHAT IT READS IS OF BULK AT MOST 1048576: true; the input reads as it did. -/
def fnExactTreeRootUptoRow : OpenClaim := { program := "ytnbdhmjgckomcaa", sum := "680a9f7c96292332c60da21713d1fe0975eb9d6302fe55185075142dd8bb9c96", func := "loop.example/proofarchive/laws.FnExactTreeRoot", spec := "fnExactTreeRoot", apart := false, narrowed := true }
def FnExactTreeRootUptoSaid : Prop := fnExactTreeRootUptoRow.holds Try.pinned (OpenSpec.upto fnExactTreeRootSpec)

/-- 'laws.FnExactChunksOf', WHERE WHAT IT READS IS OF BULK AT MOST 1048576: true; the input reads as it did. -/
def fnExactChunksOfUptoRow : OpenClaim := { program := "ytnbdhmjgckomcaa", sum := "680a9f7c96292332c60da21713d1fe0975eb9d6302fe55185075142dd8bb9c96", func := "loop.example/proofarchive/laws.FnExactChunksOf", spec := "fnExactChunksOf", apart := false, narrowed := true }
def FnExactChunksOfUptoSaid : Prop := fnExactChunksOfUptoRow.holds Try.pinned (OpenSpec.upto fnExactChunksOfSpec)

/-- 'laws.FnFileText', WHERE WHAT IT READS IS OF BULK AT MOST 1048576: true; the input reads as it did. -/
def fnFileTextUptoRow : OpenClaim := { program := "ytnbdhmjgckomcaa", sum := "680a9f7c96292332c60da21713d1fe0975eb9d6302fe55185075142dd8bb9c96", func := "loop.example/proofarchive/laws.FnFileText", spec := "fnFileText", apart := false, narrowed := true }
def FnFileTextUptoSaid : Prop := fnFileTextUptoRow.holds Try.pinned (OpenSpec.upto fnFileTextSpec)

/-- 'laws.FnReadFile', WHERE WHAT IT READS IS OF BULK AT MOST 1048576: true; the input reads as it did. -/
def fnReadFileUptoRow : OpenClaim := { program := "ytnbdhmjgckomcaa", sum := "680a9f7c96292332c60da21713d1fe0975eb9d6302fe55185075142dd8bb9c96", func := "loop.example/proofarchive/laws.FnReadFile", spec := "fnReadFile", apart := false, narrowed := true }
def FnReadFileUptoSaid : Prop := fnReadFileUptoRow.holds Try.pinned (OpenSpec.upto fnReadFileSpec)

/-- 'laws.FnPrintList', WHERE WHAT IT READS IS OF BULK AT MOST 1048576: true; the input reads as it did. -/
def fnPrintListUptoRow : OpenClaim := { program := "ytnbdhmjgckomcaa", sum := "680a9f7c96292332c60da21713d1fe0975eb9d6302fe55185075142dd8bb9c96", func := "loop.example/proofarchive/laws.FnPrintList", spec := "fnPrintList", apart := false, narrowed := true }
def FnPrintListUptoSaid : Prop := fnPrintListUptoRow.holds Try.pinned (OpenSpec.upto fnPrintListSpec)

/-- 'laws.FnChunkEnds', WHERE WHAT IT READS IS OF BULK AT MOST 1048576: true; the input reads as it did. -/
def fnChunkEndsUptoRow : OpenClaim := { program := "ytnbdhmjgckomcaa", sum := "680a9f7c96292332c60da21713d1fe0975eb9d6302fe55185075142dd8bb9c96", func := "loop.example/proofarchive/laws.FnChunkEnds", spec := "fnChunkEnds", apart := false, narrowed := true }
def FnChunkEndsUptoSaid : Prop := fnChunkEndsUptoRow.holds Try.pinned (OpenSpec.upto fnChunkEndsSpec)

/-- 'laws.FnExactTreeProof', WHERE WHAT IT READS IS OF BULK AT MOST 1048576: true; the input reads as it did. -/
def fnExactTreeProofUptoRow : OpenClaim := { program := "ytnbdhmjgckomcaa", sum := "680a9f7c96292332c60da21713d1fe0975eb9d6302fe55185075142dd8bb9c96", func := "loop.example/proofarchive/laws.FnExactTreeProof", spec := "fnExactTreeProof", apart := false, narrowed := true }
def FnExactTreeProofUptoSaid : Prop := fnExactTreeProofUptoRow.holds Try.pinned (OpenSpec.upto fnExactTreeProofSpec)

end Rows
end Go.Proofs.Ytnbdhmjgckomcaa
