/-
  No cell of these rows narrows 'for every input' (looked for: loops, veiled, ifaces, maps, wideKeys, modest, calm, conditions, laid).
  DERIVED. THE GIVEN ROWS OF THIS SEAT. 12 by the template 'for every input the law returns true; each argument reads behind the call as it read before'; 0 by the template 'total and deterministic' (their statements: YtocikejeopipaaaTotals.lean).
  GIVEN WITH THE SEED: the statements are not yours to turn. If you find one false, say at which input.
  Laid BY PROGRAM, IN A SANDBOX (cutbox-rows.mjs): the forced cells as the released guide's own fill.sh prints them over the translation c24b7d40481682bc… (all of the seat's roots in one cut). By AI agents, Wed Nov 11 2026. No macro, syntax, notation, axiom, sorry.
-/
import Derived.Test.YtocikejeopipaaaChecked
import GoSem.Claim
import GoSem.ClaimJoined
import GoSem.ClaimMapViews
import Derived.JoinedTies
import Derived.KernelRfl
namespace Go.Proofs.Ytocikejeopipaaa
/- THE CELL 'sum', in the pinned program and in every row, IS THE sha256 OF THE DUMP (.gsa) THAT YtocikejeopipaaaProg.lean LOADS. Nothing in Lean hashes anything: it is a label: what it is worth is what the hold of that sum in a sandbox is worth. -/
noncomputable def Try.pinned : Pinned := { name := "ytocikejeopipaaa", sum := "c24b7d40481682bc808760dcf16e1d35cb271ad9f1adb4651c82578554d49d1b", checked := Try.checked }
namespace Rows
def none {H : Type} : Left H := { results := [], args := [] }

/-- 'laws.FnExactConstants': WHATEVER THE INPUT: true; the input reads as it did. -/
def fnExactConstantsSpec : ChangeSpec := { name := "fnExactConstants", fn := fun _ => fun
  | [] => { results := [.lit (.bool true)], args := [] }
  | _ => none }
def fnExactConstantsRow : OpenClaim := { program := "ytocikejeopipaaa", sum := "c24b7d40481682bc808760dcf16e1d35cb271ad9f1adb4651c82578554d49d1b", func := "loop.example/proofarchive/laws.FnExactConstants", spec := "fnExactConstants", apart := false }
def FnExactConstantsSaid : Prop := fnExactConstantsRow.holds Try.pinned (OpenSpec.ofChange fnExactConstantsSpec)

/-- ITS FALSE NEIGHBOUR: 'it returns false'. Refute it at one input. -/
def fnExactConstantsWrong : ChangeSpec := { name := "fnExactConstants", fn := fun _ => fun
  | [] => { results := [.lit (.bool false)], args := [] }
  | _ => none }
def FnExactConstantsWrongFalsely : Prop := fnExactConstantsRow.holds Try.pinned (OpenSpec.ofChange fnExactConstantsWrong)

/-- 'laws.FnExactTextValid': WHATEVER THE INPUT: true; the input reads as it did. -/
def fnExactTextValidSpec : ChangeSpec := { name := "fnExactTextValid", fn := fun _ => fun
  | [d] => { results := [.lit (.bool true)], args := [d] }
  | _ => none }
def fnExactTextValidRow : OpenClaim := { program := "ytocikejeopipaaa", sum := "c24b7d40481682bc808760dcf16e1d35cb271ad9f1adb4651c82578554d49d1b", func := "loop.example/proofarchive/laws.FnExactTextValid", spec := "fnExactTextValid", apart := false }
def FnExactTextValidSaid : Prop := fnExactTextValidRow.holds Try.pinned (OpenSpec.ofChange fnExactTextValidSpec)

/-- ITS FALSE NEIGHBOUR: 'it returns false'. Refute it at one input. -/
def fnExactTextValidWrong : ChangeSpec := { name := "fnExactTextValid", fn := fun _ => fun
  | [d] => { results := [.lit (.bool false)], args := [d] }
  | _ => none }
def FnExactTextValidWrongFalsely : Prop := fnExactTextValidRow.holds Try.pinned (OpenSpec.ofChange fnExactTextValidWrong)

/-- 'laws.FnExactPrintPair': WHATEVER THE INPUT: true; the input reads as it did. -/
def fnExactPrintPairSpec : ChangeSpec := { name := "fnExactPrintPair", fn := fun _ => fun
  | [d1, d2] => { results := [.lit (.bool true)], args := [d1, d2] }
  | _ => none }
def fnExactPrintPairRow : OpenClaim := { program := "ytocikejeopipaaa", sum := "c24b7d40481682bc808760dcf16e1d35cb271ad9f1adb4651c82578554d49d1b", func := "loop.example/proofarchive/laws.FnExactPrintPair", spec := "fnExactPrintPair", apart := false }
def FnExactPrintPairSaid : Prop := fnExactPrintPairRow.holds Try.pinned (OpenSpec.ofChange fnExactPrintPairSpec)

/-- ITS FALSE NEIGHBOUR: 'it returns false'. Refute it at one input. -/
def fnExactPrintPairWrong : ChangeSpec := { name := "fnExactPrintPair", fn := fun _ => fun
  | [d1, d2] => { results := [.lit (.bool false)], args := [d1, d2] }
  | _ => none }
def FnExactPrintPairWrongFalsely : Prop := fnExactPrintPairRow.holds Try.pinned (OpenSpec.ofChange fnExactPrintPairWrong)

/-- 'laws.FnExactContentValid': WHATEVER THE INPUT: true; the input reads as it did. -/
def fnExactContentValidSpec : ChangeSpec := { name := "fnExactContentValid", fn := fun _ => fun
  | [d] => { results := [.lit (.bool true)], args := [d] }
  | _ => none }
def fnExactContentValidRow : OpenClaim := { program := "ytocikejeopipaaa", sum := "c24b7d40481682bc808760dcf16e1d35cb271ad9f1adb4651c82578554d49d1b", func := "loop.example/proofarchive/laws.FnExactContentValid", spec := "fnExactContentValid", apart := false }
def FnExactContentValidSaid : Prop := fnExactContentValidRow.holds Try.pinned (OpenSpec.ofChange fnExactContentValidSpec)

/-- ITS FALSE NEIGHBOUR: 'it returns false'. Refute it at one input. -/
def fnExactContentValidWrong : ChangeSpec := { name := "fnExactContentValid", fn := fun _ => fun
  | [d] => { results := [.lit (.bool false)], args := [d] }
  | _ => none }
def FnExactContentValidWrongFalsely : Prop := fnExactContentValidRow.holds Try.pinned (OpenSpec.ofChange fnExactContentValidWrong)

/-- 'laws.FnExactWordValid': WHATEVER THE INPUT: true; the input reads as it did. -/
def fnExactWordValidSpec : ChangeSpec := { name := "fnExactWordValid", fn := fun _ => fun
  | [d] => { results := [.lit (.bool true)], args := [d] }
  | _ => none }
def fnExactWordValidRow : OpenClaim := { program := "ytocikejeopipaaa", sum := "c24b7d40481682bc808760dcf16e1d35cb271ad9f1adb4651c82578554d49d1b", func := "loop.example/proofarchive/laws.FnExactWordValid", spec := "fnExactWordValid", apart := false }
def FnExactWordValidSaid : Prop := fnExactWordValidRow.holds Try.pinned (OpenSpec.ofChange fnExactWordValidSpec)

/-- ITS FALSE NEIGHBOUR: 'it returns false'. Refute it at one input. -/
def fnExactWordValidWrong : ChangeSpec := { name := "fnExactWordValid", fn := fun _ => fun
  | [d] => { results := [.lit (.bool false)], args := [d] }
  | _ => none }
def FnExactWordValidWrongFalsely : Prop := fnExactWordValidRow.holds Try.pinned (OpenSpec.ofChange fnExactWordValidWrong)

/-- 'laws.FnExactFileText': WHATEVER THE INPUT: true; the input reads as it did. -/
def fnExactFileTextSpec : ChangeSpec := { name := "fnExactFileText", fn := fun _ => fun
  | [d] => { results := [.lit (.bool true)], args := [d] }
  | _ => none }
def fnExactFileTextRow : OpenClaim := { program := "ytocikejeopipaaa", sum := "c24b7d40481682bc808760dcf16e1d35cb271ad9f1adb4651c82578554d49d1b", func := "loop.example/proofarchive/laws.FnExactFileText", spec := "fnExactFileText", apart := false }
def FnExactFileTextSaid : Prop := fnExactFileTextRow.holds Try.pinned (OpenSpec.ofChange fnExactFileTextSpec)

/-- ITS FALSE NEIGHBOUR: 'it returns false'. Refute it at one input. -/
def fnExactFileTextWrong : ChangeSpec := { name := "fnExactFileText", fn := fun _ => fun
  | [d] => { results := [.lit (.bool false)], args := [d] }
  | _ => none }
def FnExactFileTextWrongFalsely : Prop := fnExactFileTextRow.holds Try.pinned (OpenSpec.ofChange fnExactFileTextWrong)

/-- 'laws.FnExactPrintOf': WHATEVER THE INPUT: true; the input reads as it did. -/
def fnExactPrintOfSpec : ChangeSpec := { name := "fnExactPrintOf", fn := fun _ => fun
  | [d] => { results := [.lit (.bool true)], args := [d] }
  | _ => none }
def fnExactPrintOfRow : OpenClaim := { program := "ytocikejeopipaaa", sum := "c24b7d40481682bc808760dcf16e1d35cb271ad9f1adb4651c82578554d49d1b", func := "loop.example/proofarchive/laws.FnExactPrintOf", spec := "fnExactPrintOf", apart := false }
def FnExactPrintOfSaid : Prop := fnExactPrintOfRow.holds Try.pinned (OpenSpec.ofChange fnExactPrintOfSpec)

/-- ITS FALSE NEIGHBOUR: 'it returns false'. Refute it at one input. -/
def fnExactPrintOfWrong : ChangeSpec := { name := "fnExactPrintOf", fn := fun _ => fun
  | [d] => { results := [.lit (.bool false)], args := [d] }
  | _ => none }
def FnExactPrintOfWrongFalsely : Prop := fnExactPrintOfRow.holds Try.pinned (OpenSpec.ofChange fnExactPrintOfWrong)

/-- 'laws.FnExactReadFile': WHATEVER THE INPUT: true; the input reads as it did. -/
def fnExactReadFileSpec : ChangeSpec := { name := "fnExactReadFile", fn := fun _ => fun
  | [d] => { results := [.lit (.bool true)], args := [d] }
  | _ => none }
def fnExactReadFileRow : OpenClaim := { program := "ytocikejeopipaaa", sum := "c24b7d40481682bc808760dcf16e1d35cb271ad9f1adb4651c82578554d49d1b", func := "loop.example/proofarchive/laws.FnExactReadFile", spec := "fnExactReadFile", apart := false }
def FnExactReadFileSaid : Prop := fnExactReadFileRow.holds Try.pinned (OpenSpec.ofChange fnExactReadFileSpec)

/-- ITS FALSE NEIGHBOUR: 'it returns false'. Refute it at one input. -/
def fnExactReadFileWrong : ChangeSpec := { name := "fnExactReadFile", fn := fun _ => fun
  | [d] => { results := [.lit (.bool false)], args := [d] }
  | _ => none }
def FnExactReadFileWrongFalsely : Prop := fnExactReadFileRow.holds Try.pinned (OpenSpec.ofChange fnExactReadFileWrong)

/-- 'laws.FnWordValid': WHATEVER THE INPUT: true; the input reads as it did. -/
def fnWordValidSpec : ChangeSpec := { name := "fnWordValid", fn := fun _ => fun
  | [d] => { results := [.lit (.bool true)], args := [d] }
  | _ => none }
def fnWordValidRow : OpenClaim := { program := "ytocikejeopipaaa", sum := "c24b7d40481682bc808760dcf16e1d35cb271ad9f1adb4651c82578554d49d1b", func := "loop.example/proofarchive/laws.FnWordValid", spec := "fnWordValid", apart := false }
def FnWordValidSaid : Prop := fnWordValidRow.holds Try.pinned (OpenSpec.ofChange fnWordValidSpec)

/-- ITS FALSE NEIGHBOUR: 'it returns false'. Refute it at one input. -/
def fnWordValidWrong : ChangeSpec := { name := "fnWordValid", fn := fun _ => fun
  | [d] => { results := [.lit (.bool false)], args := [d] }
  | _ => none }
def FnWordValidWrongFalsely : Prop := fnWordValidRow.holds Try.pinned (OpenSpec.ofChange fnWordValidWrong)

/-- 'laws.FnExactPrintList': WHATEVER THE INPUT: true; the input reads as it did. -/
def fnExactPrintListSpec : ChangeSpec := { name := "fnExactPrintList", fn := fun _ => fun
  | [d] => { results := [.lit (.bool true)], args := [d] }
  | _ => none }
def fnExactPrintListRow : OpenClaim := { program := "ytocikejeopipaaa", sum := "c24b7d40481682bc808760dcf16e1d35cb271ad9f1adb4651c82578554d49d1b", func := "loop.example/proofarchive/laws.FnExactPrintList", spec := "fnExactPrintList", apart := false }
def FnExactPrintListSaid : Prop := fnExactPrintListRow.holds Try.pinned (OpenSpec.ofChange fnExactPrintListSpec)

/-- ITS FALSE NEIGHBOUR: 'it returns false'. Refute it at one input. -/
def fnExactPrintListWrong : ChangeSpec := { name := "fnExactPrintList", fn := fun _ => fun
  | [d] => { results := [.lit (.bool false)], args := [d] }
  | _ => none }
def FnExactPrintListWrongFalsely : Prop := fnExactPrintListRow.holds Try.pinned (OpenSpec.ofChange fnExactPrintListWrong)

/-- 'laws.FnTextValid': WHATEVER THE INPUT: true; the input reads as it did. -/
def fnTextValidSpec : ChangeSpec := { name := "fnTextValid", fn := fun _ => fun
  | [d] => { results := [.lit (.bool true)], args := [d] }
  | _ => none }
def fnTextValidRow : OpenClaim := { program := "ytocikejeopipaaa", sum := "c24b7d40481682bc808760dcf16e1d35cb271ad9f1adb4651c82578554d49d1b", func := "loop.example/proofarchive/laws.FnTextValid", spec := "fnTextValid", apart := false }
def FnTextValidSaid : Prop := fnTextValidRow.holds Try.pinned (OpenSpec.ofChange fnTextValidSpec)

/-- ITS FALSE NEIGHBOUR: 'it returns false'. Refute it at one input. -/
def fnTextValidWrong : ChangeSpec := { name := "fnTextValid", fn := fun _ => fun
  | [d] => { results := [.lit (.bool false)], args := [d] }
  | _ => none }
def FnTextValidWrongFalsely : Prop := fnTextValidRow.holds Try.pinned (OpenSpec.ofChange fnTextValidWrong)

/-- 'laws.FnPrintPair': WHATEVER THE INPUT: true; the input reads as it did. -/
def fnPrintPairSpec : ChangeSpec := { name := "fnPrintPair", fn := fun _ => fun
  | [d] => { results := [.lit (.bool true)], args := [d] }
  | _ => none }
def fnPrintPairRow : OpenClaim := { program := "ytocikejeopipaaa", sum := "c24b7d40481682bc808760dcf16e1d35cb271ad9f1adb4651c82578554d49d1b", func := "loop.example/proofarchive/laws.FnPrintPair", spec := "fnPrintPair", apart := false }
def FnPrintPairSaid : Prop := fnPrintPairRow.holds Try.pinned (OpenSpec.ofChange fnPrintPairSpec)

/-- ITS FALSE NEIGHBOUR: 'it returns false'. Refute it at one input. -/
def fnPrintPairWrong : ChangeSpec := { name := "fnPrintPair", fn := fun _ => fun
  | [d] => { results := [.lit (.bool false)], args := [d] }
  | _ => none }
def FnPrintPairWrongFalsely : Prop := fnPrintPairRow.holds Try.pinned (OpenSpec.ofChange fnPrintPairWrong)

/- THE SECOND FORM. 'bulk': how many values and letters a reading holds, each counted each time it is reached (what is shared counts as often as it is met; a slice's spare places count too). A statement '..UptoSaid' is the law's where the arguments, and the package variables that the reading takes, are together of bulk at most 1048576: NARROWER than '..Said'. Prove '..Said' where nothing that the law and all that it calls make is longer than what came in: it says more and counts as full. Else prove '..UptoSaid'. A law counts once. -/
mutual
def uptoBulk {H : Type} : DataW H → Nat
  | .lit (.string bytes) => bytes.length + 1
  | .lit _ => 1
  | .nil => 1
  | .ptr d => uptoBulk d + 1
  | .slice elems spare => uptoBulkAll elems + uptoBulkAll spare + 1
  | .agg parts => uptoBulkAll parts + 1
  | .iface _ d => uptoBulk d + 1
  | .map entries => uptoBulkEntries entries + 1
  | .held _ => 1
def uptoBulkAll {H : Type} : List (DataW H) → Nat
  | [] => 0
  | d :: r => uptoBulk d + uptoBulkAll r
def uptoBulkEntries {H : Type} : List (Lit × DataW H) → Nat
  | [] => 0
  | x :: r => uptoBulkEntry x + uptoBulkEntries r
def uptoBulkEntry {H : Type} : Lit × DataW H → Nat
  | (.string bytes, d) => bytes.length + uptoBulk d + 1
  | (_, d) => uptoBulk d + 1
 end
def uptoSmall : (H : Type) → List (DataW H) → Bool := fun _ ds => decide (uptoBulkAll ds ≤ 1048576)
def OpenSpec.upto (s : _root_.Go.ChangeSpec) : _root_.Go.OpenSpec := { _root_.Go.OpenSpec.ofChange s with cond := some uptoSmall }

/-- 'laws.FnExactConstants', WHERE WHAT IT READS IS OF BULK AT MOST 1048576: true; the input reads as it did. -/
def fnExactConstantsUptoRow : OpenClaim := { program := "ytocikejeopipaaa", sum := "c24b7d40481682bc808760dcf16e1d35cb271ad9f1adb4651c82578554d49d1b", func := "loop.example/proofarchive/laws.FnExactConstants", spec := "fnExactConstants", apart := false, narrowed := true }
def FnExactConstantsUptoSaid : Prop := fnExactConstantsUptoRow.holds Try.pinned (OpenSpec.upto fnExactConstantsSpec)

/-- 'laws.FnExactTextValid', WHERE WHAT IT READS IS OF BULK AT MOST 1048576: true; the input reads as it did. -/
def fnExactTextValidUptoRow : OpenClaim := { program := "ytocikejeopipaaa", sum := "c24b7d40481682bc808760dcf16e1d35cb271ad9f1adb4651c82578554d49d1b", func := "loop.example/proofarchive/laws.FnExactTextValid", spec := "fnExactTextValid", apart := false, narrowed := true }
def FnExactTextValidUptoSaid : Prop := fnExactTextValidUptoRow.holds Try.pinned (OpenSpec.upto fnExactTextValidSpec)

/-- 'laws.FnExactPrintPair', WHERE WHAT IT READS IS OF BULK AT MOST 1048576: true; the input reads as it did. -/
def fnExactPrintPairUptoRow : OpenClaim := { program := "ytocikejeopipaaa", sum := "c24b7d40481682bc808760dcf16e1d35cb271ad9f1adb4651c82578554d49d1b", func := "loop.example/proofarchive/laws.FnExactPrintPair", spec := "fnExactPrintPair", apart := false, narrowed := true }
def FnExactPrintPairUptoSaid : Prop := fnExactPrintPairUptoRow.holds Try.pinned (OpenSpec.upto fnExactPrintPairSpec)

/-- 'laws.FnExactContentValid', WHERE WHAT IT READS IS OF BULK AT MOST 1048576: true; the input reads as it did. -/
def fnExactContentValidUptoRow : OpenClaim := { program := "ytocikejeopipaaa", sum := "c24b7d40481682bc808760dcf16e1d35cb271ad9f1adb4651c82578554d49d1b", func := "loop.example/proofarchive/laws.FnExactContentValid", spec := "fnExactContentValid", apart := false, narrowed := true }
def FnExactContentValidUptoSaid : Prop := fnExactContentValidUptoRow.holds Try.pinned (OpenSpec.upto fnExactContentValidSpec)

/-- 'laws.FnExactWordValid', WHERE WHAT IT READS IS OF BULK AT MOST 1048576: true; the input reads as it did. -/
def fnExactWordValidUptoRow : OpenClaim := { program := "ytocikejeopipaaa", sum := "c24b7d40481682bc808760dcf16e1d35cb271ad9f1adb4651c82578554d49d1b", func := "loop.example/proofarchive/laws.FnExactWordValid", spec := "fnExactWordValid", apart := false, narrowed := true }
def FnExactWordValidUptoSaid : Prop := fnExactWordValidUptoRow.holds Try.pinned (OpenSpec.upto fnExactWordValidSpec)

/-- 'laws.FnExactFileText', WHERE WHAT IT READS IS OF BULK AT MOST 1048576: true; the input reads as it did. -/
def fnExactFileTextUptoRow : OpenClaim := { program := "ytocikejeopipaaa", sum := "c24b7d40481682bc808760dcf16e1d35cb271ad9f1adb4651c82578554d49d1b", func := "loop.example/proofarchive/laws.FnExactFileText", spec := "fnExactFileText", apart := false, narrowed := true }
def FnExactFileTextUptoSaid : Prop := fnExactFileTextUptoRow.holds Try.pinned (OpenSpec.upto fnExactFileTextSpec)

/-- 'laws.FnExactPrintOf', WHERE WHAT IT READS IS OF BULK AT MOST 1048576: true; the input reads as it did. -/
def fnExactPrintOfUptoRow : OpenClaim := { program := "ytocikejeopipaaa", sum := "c24b7d40481682bc808760dcf16e1d35cb271ad9f1adb4651c82578554d49d1b", func := "loop.example/proofarchive/laws.FnExactPrintOf", spec := "fnExactPrintOf", apart := false, narrowed := true }
def FnExactPrintOfUptoSaid : Prop := fnExactPrintOfUptoRow.holds Try.pinned (OpenSpec.upto fnExactPrintOfSpec)

/-- 'laws.FnExactReadFile', WHERE WHAT IT READS IS OF BULK AT MOST 1048576: true; the input reads as it did. -/
def fnExactReadFileUptoRow : OpenClaim := { program := "ytocikejeopipaaa", sum := "c24b7d40481682bc808760dcf16e1d35cb271ad9f1adb4651c82578554d49d1b", func := "loop.example/proofarchive/laws.FnExactReadFile", spec := "fnExactReadFile", apart := false, narrowed := true }
def FnExactReadFileUptoSaid : Prop := fnExactReadFileUptoRow.holds Try.pinned (OpenSpec.upto fnExactReadFileSpec)

/-- 'laws.FnWordValid', WHERE WHAT IT READS IS OF BULK AT MOST 1048576: true; the input reads as it did. -/
def fnWordValidUptoRow : OpenClaim := { program := "ytocikejeopipaaa", sum := "c24b7d40481682bc808760dcf16e1d35cb271ad9f1adb4651c82578554d49d1b", func := "loop.example/proofarchive/laws.FnWordValid", spec := "fnWordValid", apart := false, narrowed := true }
def FnWordValidUptoSaid : Prop := fnWordValidUptoRow.holds Try.pinned (OpenSpec.upto fnWordValidSpec)

/-- 'laws.FnExactPrintList', WHERE WHAT IT READS IS OF BULK AT MOST 1048576: true; the input reads as it did. -/
def fnExactPrintListUptoRow : OpenClaim := { program := "ytocikejeopipaaa", sum := "c24b7d40481682bc808760dcf16e1d35cb271ad9f1adb4651c82578554d49d1b", func := "loop.example/proofarchive/laws.FnExactPrintList", spec := "fnExactPrintList", apart := false, narrowed := true }
def FnExactPrintListUptoSaid : Prop := fnExactPrintListUptoRow.holds Try.pinned (OpenSpec.upto fnExactPrintListSpec)

/-- 'laws.FnTextValid', WHERE WHAT IT READS IS OF BULK AT MOST 1048576: true; the input reads as it did. -/
def fnTextValidUptoRow : OpenClaim := { program := "ytocikejeopipaaa", sum := "c24b7d40481682bc808760dcf16e1d35cb271ad9f1adb4651c82578554d49d1b", func := "loop.example/proofarchive/laws.FnTextValid", spec := "fnTextValid", apart := false, narrowed := true }
def FnTextValidUptoSaid : Prop := fnTextValidUptoRow.holds Try.pinned (OpenSpec.upto fnTextValidSpec)

/-- 'laws.FnPrintPair', WHERE WHAT IT READS IS OF BULK AT MOST 1048576: true; the input reads as it did. -/
def fnPrintPairUptoRow : OpenClaim := { program := "ytocikejeopipaaa", sum := "c24b7d40481682bc808760dcf16e1d35cb271ad9f1adb4651c82578554d49d1b", func := "loop.example/proofarchive/laws.FnPrintPair", spec := "fnPrintPair", apart := false, narrowed := true }
def FnPrintPairUptoSaid : Prop := fnPrintPairUptoRow.holds Try.pinned (OpenSpec.upto fnPrintPairSpec)

end Rows
end Go.Proofs.Ytocikejeopipaaa
