/-
  NARROWER THAN 'FOR EVERY INPUT', by the rows' own cells (each row's printed sentence says how): FnExactPathBelow: laid · FnPathBelow: laid · FnJoinPath: laid · FnExactHexText: laid · FnHexText: laid · FnExactReadHex: laid · FnReadHex: laid · FnExactFolderText: laid · FnFolderText: laid · FnExactReadFolder: laid · FnReadFolder: laid · FnExactTextKind: laid.
  DERIVED. THE GIVEN ROWS OF THIS SEAT. 12 by the template 'for every input the law returns true; each argument reads behind the call as it read before'; 0 by the template 'total and deterministic' (their statements: YtfjlocfaibbobaaDoorTotals.lean).
  GIVEN WITH THE SEED: the statements are not yours to turn. If you find one false, say at which input.
  Laid BY PROGRAM, IN A SANDBOX (cutbox-rows.mjs): the forced cells as the released guide's own fill.sh prints them over the translation 594d8656edfead29… (all of the seat's roots in one cut). By AI agents, Wed Nov 11 2026. No macro, syntax, notation, axiom, sorry.
-/
import Derived.Test.YtfjlocfaibbobaaDoorChecked
import GoSem.PinnedTables
import GoSem.Claim
import GoSem.ClaimJoined
import GoSem.ClaimMapViews
import Derived.JoinedTies
import Derived.KernelRfl
namespace Go.Proofs.YtfjlocfaibbobaaDoor
/- THE CELL 'sum', in the pinned program and in every row, IS THE sha256 OF THE DUMP (.gsa) THAT YtfjlocfaibbobaaDoorProg.lean LOADS. Nothing in Lean hashes anything: it is a label: what it is worth is what the hold of that sum in a sandbox is worth. -/
noncomputable def Tryd.pinned : Pinned := { name := "ytfjlocfaibbobaadoor", sum := "594d8656edfead290d6a6a429ec8aa94230b1bca8c0069649146f7f109ac2a16", checked := Tryd.checked }
namespace Rows
def none {H : Type} : Left H := { results := [], args := [] }

/- WHAT THE LISTED PACKAGE-LEVEL VARIABLES READ AS WHEN THE CALL BEGINS. Each datum BY PROGRAM (the guide's laid-datum.mjs) off the statement by which the dump's own 'gosem.cut.vars' lays the variable. In a bare row this is a premise. The card (YtfjlocfaibbobaaDoorCards.lean) ties it to the program's text. -/
def laid_unicode_utf8_acceptRanges {H : Type} : DataW H := .agg [.agg [.lit (.int .u8 128), .lit (.int .u8 191)], .agg [.lit (.int .u8 160), .lit (.int .u8 191)], .agg [.lit (.int .u8 128), .lit (.int .u8 159)], .agg [.lit (.int .u8 144), .lit (.int .u8 191)], .agg [.lit (.int .u8 128), .lit (.int .u8 143)], .agg [.lit (.int .u8 0), .lit (.int .u8 0)], .agg [.lit (.int .u8 0), .lit (.int .u8 0)], .agg [.lit (.int .u8 0), .lit (.int .u8 0)], .agg [.lit (.int .u8 0), .lit (.int .u8 0)], .agg [.lit (.int .u8 0), .lit (.int .u8 0)], .agg [.lit (.int .u8 0), .lit (.int .u8 0)], .agg [.lit (.int .u8 0), .lit (.int .u8 0)], .agg [.lit (.int .u8 0), .lit (.int .u8 0)], .agg [.lit (.int .u8 0), .lit (.int .u8 0)], .agg [.lit (.int .u8 0), .lit (.int .u8 0)], .agg [.lit (.int .u8 0), .lit (.int .u8 0)]]
/-- One of Go's own tables, pinned by name: the form's constant. -/
def laid_unicode_utf8_first : DataW Unit := Go.Pinned.utf8First
def laid_math_bits_deBruijn32tab {H : Type} : DataW H := .agg [.lit (.int .u8 0), .lit (.int .u8 1), .lit (.int .u8 28), .lit (.int .u8 2), .lit (.int .u8 29), .lit (.int .u8 14), .lit (.int .u8 24), .lit (.int .u8 3), .lit (.int .u8 30), .lit (.int .u8 22), .lit (.int .u8 20), .lit (.int .u8 15), .lit (.int .u8 25), .lit (.int .u8 17), .lit (.int .u8 4), .lit (.int .u8 8), .lit (.int .u8 31), .lit (.int .u8 27), .lit (.int .u8 13), .lit (.int .u8 23), .lit (.int .u8 21), .lit (.int .u8 19), .lit (.int .u8 16), .lit (.int .u8 7), .lit (.int .u8 26), .lit (.int .u8 12), .lit (.int .u8 18), .lit (.int .u8 6), .lit (.int .u8 11), .lit (.int .u8 5), .lit (.int .u8 10), .lit (.int .u8 9)]
def laid_math_bits_deBruijn64tab {H : Type} : DataW H := .agg [.lit (.int .u8 0), .lit (.int .u8 1), .lit (.int .u8 56), .lit (.int .u8 2), .lit (.int .u8 57), .lit (.int .u8 49), .lit (.int .u8 28), .lit (.int .u8 3), .lit (.int .u8 61), .lit (.int .u8 58), .lit (.int .u8 42), .lit (.int .u8 50), .lit (.int .u8 38), .lit (.int .u8 29), .lit (.int .u8 17), .lit (.int .u8 4), .lit (.int .u8 62), .lit (.int .u8 47), .lit (.int .u8 59), .lit (.int .u8 36), .lit (.int .u8 45), .lit (.int .u8 43), .lit (.int .u8 51), .lit (.int .u8 22), .lit (.int .u8 53), .lit (.int .u8 39), .lit (.int .u8 33), .lit (.int .u8 30), .lit (.int .u8 24), .lit (.int .u8 18), .lit (.int .u8 12), .lit (.int .u8 5), .lit (.int .u8 63), .lit (.int .u8 55), .lit (.int .u8 48), .lit (.int .u8 27), .lit (.int .u8 60), .lit (.int .u8 41), .lit (.int .u8 37), .lit (.int .u8 16), .lit (.int .u8 46), .lit (.int .u8 35), .lit (.int .u8 44), .lit (.int .u8 21), .lit (.int .u8 52), .lit (.int .u8 32), .lit (.int .u8 23), .lit (.int .u8 11), .lit (.int .u8 54), .lit (.int .u8 26), .lit (.int .u8 40), .lit (.int .u8 15), .lit (.int .u8 34), .lit (.int .u8 20), .lit (.int .u8 31), .lit (.int .u8 10), .lit (.int .u8 25), .lit (.int .u8 14), .lit (.int .u8 19), .lit (.int .u8 9), .lit (.int .u8 13), .lit (.int .u8 8), .lit (.int .u8 7), .lit (.int .u8 6)]
def laid_internal_strconv_uint64pow10 {H : Type} : DataW H := .agg [.lit (.int .u64 1), .lit (.int .u64 10), .lit (.int .u64 100), .lit (.int .u64 1000), .lit (.int .u64 10000), .lit (.int .u64 100000), .lit (.int .u64 1000000), .lit (.int .u64 10000000), .lit (.int .u64 100000000), .lit (.int .u64 1000000000), .lit (.int .u64 10000000000), .lit (.int .u64 100000000000), .lit (.int .u64 1000000000000), .lit (.int .u64 10000000000000), .lit (.int .u64 100000000000000), .lit (.int .u64 1000000000000000), .lit (.int .u64 10000000000000000), .lit (.int .u64 100000000000000000), .lit (.int .u64 1000000000000000000), .lit (.int .u64 10000000000000000000)]

/-- 'laws.FnExactPathBelow': WHATEVER THE INPUT: true; the input reads as it did. -/
def fnExactPathBelowSpec : ChangeSpec := { name := "fnExactPathBelow", fn := fun _ => fun
  | [d1, d2] => { results := [.lit (.bool true)], args := [d1, d2] }
  | _ => none }
def fnExactPathBelowRow : OpenClaim := { program := "ytfjlocfaibbobaadoor", sum := "594d8656edfead290d6a6a429ec8aa94230b1bca8c0069649146f7f109ac2a16", func := "loop.example/proofarchive/laws.FnExactPathBelow", spec := "fnExactPathBelow", inPlace := ["internal/bytealg.CountString", "internal/bytealg.IndexByteString", "internal/bytealg.IndexString", "internal/abi.NoEscape", "internal/bytealg.MakeNoZero"], named := ["unicode/utf8.first", "unicode/utf8.acceptRanges", "internal/bytealg.MaxLen"], apart := false, laid := [("unicode/utf8.acceptRanges", laid_unicode_utf8_acceptRanges), ("unicode/utf8.first", laid_unicode_utf8_first)] }
def FnExactPathBelowSaid : Prop := fnExactPathBelowRow.holds Tryd.pinned (OpenSpec.ofChange fnExactPathBelowSpec)

/-- ITS FALSE NEIGHBOUR: 'it returns false'. Refute it at one input. -/
def fnExactPathBelowWrong : ChangeSpec := { name := "fnExactPathBelow", fn := fun _ => fun
  | [d1, d2] => { results := [.lit (.bool false)], args := [d1, d2] }
  | _ => none }
def FnExactPathBelowWrongFalsely : Prop := fnExactPathBelowRow.holds Tryd.pinned (OpenSpec.ofChange fnExactPathBelowWrong)

/-- 'laws.FnPathBelow': WHATEVER THE INPUT: true; the input reads as it did. -/
def fnPathBelowSpec : ChangeSpec := { name := "fnPathBelow", fn := fun _ => fun
  | [d] => { results := [.lit (.bool true)], args := [d] }
  | _ => none }
def fnPathBelowRow : OpenClaim := { program := "ytfjlocfaibbobaadoor", sum := "594d8656edfead290d6a6a429ec8aa94230b1bca8c0069649146f7f109ac2a16", func := "loop.example/proofarchive/laws.FnPathBelow", spec := "fnPathBelow", inPlace := ["internal/bytealg.CountString", "internal/bytealg.IndexByteString", "internal/bytealg.IndexString", "internal/abi.NoEscape", "internal/bytealg.MakeNoZero"], named := ["unicode/utf8.first", "unicode/utf8.acceptRanges", "internal/bytealg.MaxLen"], apart := false, laid := [("unicode/utf8.acceptRanges", laid_unicode_utf8_acceptRanges), ("unicode/utf8.first", laid_unicode_utf8_first)] }
def FnPathBelowSaid : Prop := fnPathBelowRow.holds Tryd.pinned (OpenSpec.ofChange fnPathBelowSpec)

/-- ITS FALSE NEIGHBOUR: 'it returns false'. Refute it at one input. -/
def fnPathBelowWrong : ChangeSpec := { name := "fnPathBelow", fn := fun _ => fun
  | [d] => { results := [.lit (.bool false)], args := [d] }
  | _ => none }
def FnPathBelowWrongFalsely : Prop := fnPathBelowRow.holds Tryd.pinned (OpenSpec.ofChange fnPathBelowWrong)

/-- 'laws.FnJoinPath': WHATEVER THE INPUT: true; the input reads as it did. -/
def fnJoinPathSpec : ChangeSpec := { name := "fnJoinPath", fn := fun _ => fun
  | [d] => { results := [.lit (.bool true)], args := [d] }
  | _ => none }
def fnJoinPathRow : OpenClaim := { program := "ytfjlocfaibbobaadoor", sum := "594d8656edfead290d6a6a429ec8aa94230b1bca8c0069649146f7f109ac2a16", func := "loop.example/proofarchive/laws.FnJoinPath", spec := "fnJoinPath", inPlace := ["internal/abi.NoEscape", "internal/bytealg.MakeNoZero", "internal/bytealg.CountString", "internal/bytealg.IndexByteString", "internal/bytealg.IndexString"], named := ["unicode/utf8.first", "unicode/utf8.acceptRanges", "internal/bytealg.MaxLen"], apart := false, laid := [("unicode/utf8.acceptRanges", laid_unicode_utf8_acceptRanges), ("unicode/utf8.first", laid_unicode_utf8_first)] }
def FnJoinPathSaid : Prop := fnJoinPathRow.holds Tryd.pinned (OpenSpec.ofChange fnJoinPathSpec)

/-- ITS FALSE NEIGHBOUR: 'it returns false'. Refute it at one input. -/
def fnJoinPathWrong : ChangeSpec := { name := "fnJoinPath", fn := fun _ => fun
  | [d] => { results := [.lit (.bool false)], args := [d] }
  | _ => none }
def FnJoinPathWrongFalsely : Prop := fnJoinPathRow.holds Tryd.pinned (OpenSpec.ofChange fnJoinPathWrong)

/-- 'laws.FnExactHexText': WHATEVER THE INPUT: true; the input reads as it did. -/
def fnExactHexTextSpec : ChangeSpec := { name := "fnExactHexText", fn := fun _ => fun
  | [d] => { results := [.lit (.bool true)], args := [d] }
  | _ => none }
def fnExactHexTextRow : OpenClaim := { program := "ytfjlocfaibbobaadoor", sum := "594d8656edfead290d6a6a429ec8aa94230b1bca8c0069649146f7f109ac2a16", func := "loop.example/proofarchive/laws.FnExactHexText", spec := "fnExactHexText", named := ["internal/strconv.uint64pow10", "math/bits.deBruijn32tab", "math/bits.deBruijn64tab"], apart := false, laid := [("math/bits.deBruijn32tab", laid_math_bits_deBruijn32tab), ("math/bits.deBruijn64tab", laid_math_bits_deBruijn64tab), ("internal/strconv.uint64pow10", laid_internal_strconv_uint64pow10)] }
def FnExactHexTextSaid : Prop := fnExactHexTextRow.holds Tryd.pinned (OpenSpec.ofChange fnExactHexTextSpec)

/-- ITS FALSE NEIGHBOUR: 'it returns false'. Refute it at one input. -/
def fnExactHexTextWrong : ChangeSpec := { name := "fnExactHexText", fn := fun _ => fun
  | [d] => { results := [.lit (.bool false)], args := [d] }
  | _ => none }
def FnExactHexTextWrongFalsely : Prop := fnExactHexTextRow.holds Tryd.pinned (OpenSpec.ofChange fnExactHexTextWrong)

/-- 'laws.FnHexText': WHATEVER THE INPUT: true; the input reads as it did. -/
def fnHexTextSpec : ChangeSpec := { name := "fnHexText", fn := fun _ => fun
  | [d] => { results := [.lit (.bool true)], args := [d] }
  | _ => none }
def fnHexTextRow : OpenClaim := { program := "ytfjlocfaibbobaadoor", sum := "594d8656edfead290d6a6a429ec8aa94230b1bca8c0069649146f7f109ac2a16", func := "loop.example/proofarchive/laws.FnHexText", spec := "fnHexText", named := ["internal/strconv.uint64pow10", "math/bits.deBruijn32tab", "math/bits.deBruijn64tab"], apart := false, laid := [("math/bits.deBruijn32tab", laid_math_bits_deBruijn32tab), ("math/bits.deBruijn64tab", laid_math_bits_deBruijn64tab), ("internal/strconv.uint64pow10", laid_internal_strconv_uint64pow10)] }
def FnHexTextSaid : Prop := fnHexTextRow.holds Tryd.pinned (OpenSpec.ofChange fnHexTextSpec)

/-- ITS FALSE NEIGHBOUR: 'it returns false'. Refute it at one input. -/
def fnHexTextWrong : ChangeSpec := { name := "fnHexText", fn := fun _ => fun
  | [d] => { results := [.lit (.bool false)], args := [d] }
  | _ => none }
def FnHexTextWrongFalsely : Prop := fnHexTextRow.holds Tryd.pinned (OpenSpec.ofChange fnHexTextWrong)

/-- 'laws.FnExactReadHex': WHATEVER THE INPUT: true; the input reads as it did. -/
def fnExactReadHexSpec : ChangeSpec := { name := "fnExactReadHex", fn := fun _ => fun
  | [d] => { results := [.lit (.bool true)], args := [d] }
  | _ => none }
def fnExactReadHexRow : OpenClaim := { program := "ytfjlocfaibbobaadoor", sum := "594d8656edfead290d6a6a429ec8aa94230b1bca8c0069649146f7f109ac2a16", func := "loop.example/proofarchive/laws.FnExactReadHex", spec := "fnExactReadHex", named := ["internal/strconv.uint64pow10", "math/bits.deBruijn32tab", "math/bits.deBruijn64tab"], apart := false, laid := [("math/bits.deBruijn32tab", laid_math_bits_deBruijn32tab), ("math/bits.deBruijn64tab", laid_math_bits_deBruijn64tab), ("internal/strconv.uint64pow10", laid_internal_strconv_uint64pow10)] }
def FnExactReadHexSaid : Prop := fnExactReadHexRow.holds Tryd.pinned (OpenSpec.ofChange fnExactReadHexSpec)

/-- ITS FALSE NEIGHBOUR: 'it returns false'. Refute it at one input. -/
def fnExactReadHexWrong : ChangeSpec := { name := "fnExactReadHex", fn := fun _ => fun
  | [d] => { results := [.lit (.bool false)], args := [d] }
  | _ => none }
def FnExactReadHexWrongFalsely : Prop := fnExactReadHexRow.holds Tryd.pinned (OpenSpec.ofChange fnExactReadHexWrong)

/-- 'laws.FnReadHex': WHATEVER THE INPUT: true; the input reads as it did. -/
def fnReadHexSpec : ChangeSpec := { name := "fnReadHex", fn := fun _ => fun
  | [d] => { results := [.lit (.bool true)], args := [d] }
  | _ => none }
def fnReadHexRow : OpenClaim := { program := "ytfjlocfaibbobaadoor", sum := "594d8656edfead290d6a6a429ec8aa94230b1bca8c0069649146f7f109ac2a16", func := "loop.example/proofarchive/laws.FnReadHex", spec := "fnReadHex", named := ["internal/strconv.uint64pow10", "math/bits.deBruijn32tab", "math/bits.deBruijn64tab"], apart := false, laid := [("math/bits.deBruijn32tab", laid_math_bits_deBruijn32tab), ("math/bits.deBruijn64tab", laid_math_bits_deBruijn64tab), ("internal/strconv.uint64pow10", laid_internal_strconv_uint64pow10)] }
def FnReadHexSaid : Prop := fnReadHexRow.holds Tryd.pinned (OpenSpec.ofChange fnReadHexSpec)

/-- ITS FALSE NEIGHBOUR: 'it returns false'. Refute it at one input. -/
def fnReadHexWrong : ChangeSpec := { name := "fnReadHex", fn := fun _ => fun
  | [d] => { results := [.lit (.bool false)], args := [d] }
  | _ => none }
def FnReadHexWrongFalsely : Prop := fnReadHexRow.holds Tryd.pinned (OpenSpec.ofChange fnReadHexWrong)

/-- 'laws.FnExactFolderText': WHATEVER THE INPUT: true; the input reads as it did. -/
def fnExactFolderTextSpec : ChangeSpec := { name := "fnExactFolderText", fn := fun _ => fun
  | [d] => { results := [.lit (.bool true)], args := [d] }
  | _ => none }
def fnExactFolderTextRow : OpenClaim := { program := "ytfjlocfaibbobaadoor", sum := "594d8656edfead290d6a6a429ec8aa94230b1bca8c0069649146f7f109ac2a16", func := "loop.example/proofarchive/laws.FnExactFolderText", spec := "fnExactFolderText", named := ["internal/strconv.uint64pow10", "math/bits.deBruijn32tab", "math/bits.deBruijn64tab"], apart := false, laid := [("math/bits.deBruijn32tab", laid_math_bits_deBruijn32tab), ("math/bits.deBruijn64tab", laid_math_bits_deBruijn64tab), ("internal/strconv.uint64pow10", laid_internal_strconv_uint64pow10)] }
def FnExactFolderTextSaid : Prop := fnExactFolderTextRow.holds Tryd.pinned (OpenSpec.ofChange fnExactFolderTextSpec)

/-- ITS FALSE NEIGHBOUR: 'it returns false'. Refute it at one input. -/
def fnExactFolderTextWrong : ChangeSpec := { name := "fnExactFolderText", fn := fun _ => fun
  | [d] => { results := [.lit (.bool false)], args := [d] }
  | _ => none }
def FnExactFolderTextWrongFalsely : Prop := fnExactFolderTextRow.holds Tryd.pinned (OpenSpec.ofChange fnExactFolderTextWrong)

/-- 'laws.FnFolderText': WHATEVER THE INPUT: true; the input reads as it did. -/
def fnFolderTextSpec : ChangeSpec := { name := "fnFolderText", fn := fun _ => fun
  | [d] => { results := [.lit (.bool true)], args := [d] }
  | _ => none }
def fnFolderTextRow : OpenClaim := { program := "ytfjlocfaibbobaadoor", sum := "594d8656edfead290d6a6a429ec8aa94230b1bca8c0069649146f7f109ac2a16", func := "loop.example/proofarchive/laws.FnFolderText", spec := "fnFolderText", inPlace := ["internal/bytealg.IndexByteString", "internal/bytealg.IndexString"], named := ["internal/strconv.uint64pow10", "math/bits.deBruijn32tab", "math/bits.deBruijn64tab", "internal/bytealg.MaxLen"], apart := false, laid := [("math/bits.deBruijn32tab", laid_math_bits_deBruijn32tab), ("math/bits.deBruijn64tab", laid_math_bits_deBruijn64tab), ("internal/strconv.uint64pow10", laid_internal_strconv_uint64pow10)] }
def FnFolderTextSaid : Prop := fnFolderTextRow.holds Tryd.pinned (OpenSpec.ofChange fnFolderTextSpec)

/-- ITS FALSE NEIGHBOUR: 'it returns false'. Refute it at one input. -/
def fnFolderTextWrong : ChangeSpec := { name := "fnFolderText", fn := fun _ => fun
  | [d] => { results := [.lit (.bool false)], args := [d] }
  | _ => none }
def FnFolderTextWrongFalsely : Prop := fnFolderTextRow.holds Tryd.pinned (OpenSpec.ofChange fnFolderTextWrong)

/-- 'laws.FnExactReadFolder': WHATEVER THE INPUT: true; the input reads as it did. -/
def fnExactReadFolderSpec : ChangeSpec := { name := "fnExactReadFolder", fn := fun _ => fun
  | [d] => { results := [.lit (.bool true)], args := [d] }
  | _ => none }
def fnExactReadFolderRow : OpenClaim := { program := "ytfjlocfaibbobaadoor", sum := "594d8656edfead290d6a6a429ec8aa94230b1bca8c0069649146f7f109ac2a16", func := "loop.example/proofarchive/laws.FnExactReadFolder", spec := "fnExactReadFolder", inPlace := ["internal/bytealg.IndexByteString", "internal/bytealg.IndexString"], named := ["internal/bytealg.MaxLen", "internal/strconv.uint64pow10", "math/bits.deBruijn32tab", "math/bits.deBruijn64tab"], apart := false, laid := [("math/bits.deBruijn32tab", laid_math_bits_deBruijn32tab), ("math/bits.deBruijn64tab", laid_math_bits_deBruijn64tab), ("internal/strconv.uint64pow10", laid_internal_strconv_uint64pow10)] }
def FnExactReadFolderSaid : Prop := fnExactReadFolderRow.holds Tryd.pinned (OpenSpec.ofChange fnExactReadFolderSpec)

/-- ITS FALSE NEIGHBOUR: 'it returns false'. Refute it at one input. -/
def fnExactReadFolderWrong : ChangeSpec := { name := "fnExactReadFolder", fn := fun _ => fun
  | [d] => { results := [.lit (.bool false)], args := [d] }
  | _ => none }
def FnExactReadFolderWrongFalsely : Prop := fnExactReadFolderRow.holds Tryd.pinned (OpenSpec.ofChange fnExactReadFolderWrong)

/-- 'laws.FnReadFolder': WHATEVER THE INPUT: true; the input reads as it did. -/
def fnReadFolderSpec : ChangeSpec := { name := "fnReadFolder", fn := fun _ => fun
  | [d] => { results := [.lit (.bool true)], args := [d] }
  | _ => none }
def fnReadFolderRow : OpenClaim := { program := "ytfjlocfaibbobaadoor", sum := "594d8656edfead290d6a6a429ec8aa94230b1bca8c0069649146f7f109ac2a16", func := "loop.example/proofarchive/laws.FnReadFolder", spec := "fnReadFolder", inPlace := ["internal/bytealg.IndexByteString", "internal/bytealg.IndexString"], named := ["internal/bytealg.MaxLen", "internal/strconv.uint64pow10", "math/bits.deBruijn32tab", "math/bits.deBruijn64tab"], apart := false, laid := [("math/bits.deBruijn32tab", laid_math_bits_deBruijn32tab), ("math/bits.deBruijn64tab", laid_math_bits_deBruijn64tab), ("internal/strconv.uint64pow10", laid_internal_strconv_uint64pow10)] }
def FnReadFolderSaid : Prop := fnReadFolderRow.holds Tryd.pinned (OpenSpec.ofChange fnReadFolderSpec)

/-- ITS FALSE NEIGHBOUR: 'it returns false'. Refute it at one input. -/
def fnReadFolderWrong : ChangeSpec := { name := "fnReadFolder", fn := fun _ => fun
  | [d] => { results := [.lit (.bool false)], args := [d] }
  | _ => none }
def FnReadFolderWrongFalsely : Prop := fnReadFolderRow.holds Tryd.pinned (OpenSpec.ofChange fnReadFolderWrong)

/-- 'laws.FnExactTextKind': WHATEVER THE INPUT: true; the input reads as it did. -/
def fnExactTextKindSpec : ChangeSpec := { name := "fnExactTextKind", fn := fun _ => fun
  | [d] => { results := [.lit (.bool true)], args := [d] }
  | _ => none }
def fnExactTextKindRow : OpenClaim := { program := "ytfjlocfaibbobaadoor", sum := "594d8656edfead290d6a6a429ec8aa94230b1bca8c0069649146f7f109ac2a16", func := "loop.example/proofarchive/laws.FnExactTextKind", spec := "fnExactTextKind", inPlace := ["internal/bytealg.IndexByteString", "internal/bytealg.IndexString"], named := ["internal/bytealg.MaxLen", "internal/strconv.uint64pow10", "math/bits.deBruijn32tab", "math/bits.deBruijn64tab"], apart := false, laid := [("math/bits.deBruijn32tab", laid_math_bits_deBruijn32tab), ("math/bits.deBruijn64tab", laid_math_bits_deBruijn64tab), ("internal/strconv.uint64pow10", laid_internal_strconv_uint64pow10)] }
def FnExactTextKindSaid : Prop := fnExactTextKindRow.holds Tryd.pinned (OpenSpec.ofChange fnExactTextKindSpec)

/-- ITS FALSE NEIGHBOUR: 'it returns false'. Refute it at one input. -/
def fnExactTextKindWrong : ChangeSpec := { name := "fnExactTextKind", fn := fun _ => fun
  | [d] => { results := [.lit (.bool false)], args := [d] }
  | _ => none }
def FnExactTextKindWrongFalsely : Prop := fnExactTextKindRow.holds Tryd.pinned (OpenSpec.ofChange fnExactTextKindWrong)

/- THE SECOND FORM. 'bulk': how many values and letters a reading holds, each counted each time it is reached (what is shared counts as often as it is met; a slice's spare places count too). A statement '..UptoSaid' is the law's where the arguments, and the package variables that the reading takes, are together of bulk at most 1048576: NARROWER than '..Said'. Prove '..Said' where nothing that the law and all that it calls make is longer than what came in: it says more and counts as full. Else prove '..UptoSaid'. A law counts once. -/
mutual
def uptoBulk {H : Type} : DataW H → Nat
  | .lit (.string bytes) => bytes.length + 1
  | .lit _ => 1
  | .nil => 1
  | .ptr d => uptoBulk d + 1
  | .slice elems spare => uptoBulkAll elems + uptoBulkAll spare + 1
  | .agg parts => uptoBulkAll parts + 1
  | .iface _ d => uptoBulk d + 1
  | .map entries => uptoBulkEntries entries + 1
  | .held _ => 1
def uptoBulkAll {H : Type} : List (DataW H) → Nat
  | [] => 0
  | d :: r => uptoBulk d + uptoBulkAll r
def uptoBulkEntries {H : Type} : List (Lit × DataW H) → Nat
  | [] => 0
  | x :: r => uptoBulkEntry x + uptoBulkEntries r
def uptoBulkEntry {H : Type} : Lit × DataW H → Nat
  | (.string bytes, d) => bytes.length + uptoBulk d + 1
  | (_, d) => uptoBulk d + 1
 end
def uptoSmall : (H : Type) → List (DataW H) → Bool := fun _ ds => decide (uptoBulkAll ds ≤ 1048576)
def OpenSpec.upto (s : _root_.Go.ChangeSpec) : _root_.Go.OpenSpec := { _root_.Go.OpenSpec.ofChange s with cond := some uptoSmall }

/-- 'laws.FnExactPathBelow', WHERE WHAT IT READS IS OF BULK AT MOST 1048576: true; the input reads as it did. -/
def fnExactPathBelowUptoRow : OpenClaim := { program := "ytfjlocfaibbobaadoor", sum := "594d8656edfead290d6a6a429ec8aa94230b1bca8c0069649146f7f109ac2a16", func := "loop.example/proofarchive/laws.FnExactPathBelow", spec := "fnExactPathBelow", inPlace := ["internal/bytealg.CountString", "internal/bytealg.IndexByteString", "internal/bytealg.IndexString", "internal/abi.NoEscape", "internal/bytealg.MakeNoZero"], named := ["unicode/utf8.first", "unicode/utf8.acceptRanges", "internal/bytealg.MaxLen"], apart := false, laid := [("unicode/utf8.acceptRanges", laid_unicode_utf8_acceptRanges), ("unicode/utf8.first", laid_unicode_utf8_first)], narrowed := true }
def FnExactPathBelowUptoSaid : Prop := fnExactPathBelowUptoRow.holds Tryd.pinned (OpenSpec.upto fnExactPathBelowSpec)

/-- 'laws.FnPathBelow', WHERE WHAT IT READS IS OF BULK AT MOST 1048576: true; the input reads as it did. -/
def fnPathBelowUptoRow : OpenClaim := { program := "ytfjlocfaibbobaadoor", sum := "594d8656edfead290d6a6a429ec8aa94230b1bca8c0069649146f7f109ac2a16", func := "loop.example/proofarchive/laws.FnPathBelow", spec := "fnPathBelow", inPlace := ["internal/bytealg.CountString", "internal/bytealg.IndexByteString", "internal/bytealg.IndexString", "internal/abi.NoEscape", "internal/bytealg.MakeNoZero"], named := ["unicode/utf8.first", "unicode/utf8.acceptRanges", "internal/bytealg.MaxLen"], apart := false, laid := [("unicode/utf8.acceptRanges", laid_unicode_utf8_acceptRanges), ("unicode/utf8.first", laid_unicode_utf8_first)], narrowed := true }
def FnPathBelowUptoSaid : Prop := fnPathBelowUptoRow.holds Tryd.pinned (OpenSpec.upto fnPathBelowSpec)

/-- 'laws.FnJoinPath', WHERE WHAT IT READS IS OF BULK AT MOST 1048576: true; the input reads as it did. -/
def fnJoinPathUptoRow : OpenClaim := { program := "ytfjlocfaibbobaadoor", sum := "594d8656edfead290d6a6a429ec8aa94230b1bca8c0069649146f7f109ac2a16", func := "loop.example/proofarchive/laws.FnJoinPath", spec := "fnJoinPath", inPlace := ["internal/abi.NoEscape", "internal/bytealg.MakeNoZero", "internal/bytealg.CountString", "internal/bytealg.IndexByteString", "internal/bytealg.IndexString"], named := ["unicode/utf8.first", "unicode/utf8.acceptRanges", "internal/bytealg.MaxLen"], apart := false, laid := [("unicode/utf8.acceptRanges", laid_unicode_utf8_acceptRanges), ("unicode/utf8.first", laid_unicode_utf8_first)], narrowed := true }
def FnJoinPathUptoSaid : Prop := fnJoinPathUptoRow.holds Tryd.pinned (OpenSpec.upto fnJoinPathSpec)

/-- 'laws.FnExactHexText', WHERE WHAT IT READS IS OF BULK AT MOST 1048576: true; the input reads as it did. -/
def fnExactHexTextUptoRow : OpenClaim := { program := "ytfjlocfaibbobaadoor", sum := "594d8656edfead290d6a6a429ec8aa94230b1bca8c0069649146f7f109ac2a16", func := "loop.example/proofarchive/laws.FnExactHexText", spec := "fnExactHexText", named := ["internal/strconv.uint64pow10", "math/bits.deBruijn32tab", "math/bits.deBruijn64tab"], apart := false, laid := [("math/bits.deBruijn32tab", laid_math_bits_deBruijn32tab), ("math/bits.deBruijn64tab", laid_math_bits_deBruijn64tab), ("internal/strconv.uint64pow10", laid_internal_strconv_uint64pow10)], narrowed := true }
def FnExactHexTextUptoSaid : Prop := fnExactHexTextUptoRow.holds Tryd.pinned (OpenSpec.upto fnExactHexTextSpec)

/-- 'laws.FnHexText', WHERE WHAT IT READS IS OF BULK AT MOST 1048576: true; the input reads as it did. -/
def fnHexTextUptoRow : OpenClaim := { program := "ytfjlocfaibbobaadoor", sum := "594d8656edfead290d6a6a429ec8aa94230b1bca8c0069649146f7f109ac2a16", func := "loop.example/proofarchive/laws.FnHexText", spec := "fnHexText", named := ["internal/strconv.uint64pow10", "math/bits.deBruijn32tab", "math/bits.deBruijn64tab"], apart := false, laid := [("math/bits.deBruijn32tab", laid_math_bits_deBruijn32tab), ("math/bits.deBruijn64tab", laid_math_bits_deBruijn64tab), ("internal/strconv.uint64pow10", laid_internal_strconv_uint64pow10)], narrowed := true }
def FnHexTextUptoSaid : Prop := fnHexTextUptoRow.holds Tryd.pinned (OpenSpec.upto fnHexTextSpec)

/-- 'laws.FnExactReadHex', WHERE WHAT IT READS IS OF BULK AT MOST 1048576: true; the input reads as it did. -/
def fnExactReadHexUptoRow : OpenClaim := { program := "ytfjlocfaibbobaadoor", sum := "594d8656edfead290d6a6a429ec8aa94230b1bca8c0069649146f7f109ac2a16", func := "loop.example/proofarchive/laws.FnExactReadHex", spec := "fnExactReadHex", named := ["internal/strconv.uint64pow10", "math/bits.deBruijn32tab", "math/bits.deBruijn64tab"], apart := false, laid := [("math/bits.deBruijn32tab", laid_math_bits_deBruijn32tab), ("math/bits.deBruijn64tab", laid_math_bits_deBruijn64tab), ("internal/strconv.uint64pow10", laid_internal_strconv_uint64pow10)], narrowed := true }
def FnExactReadHexUptoSaid : Prop := fnExactReadHexUptoRow.holds Tryd.pinned (OpenSpec.upto fnExactReadHexSpec)

/-- 'laws.FnReadHex', WHERE WHAT IT READS IS OF BULK AT MOST 1048576: true; the input reads as it did. -/
def fnReadHexUptoRow : OpenClaim := { program := "ytfjlocfaibbobaadoor", sum := "594d8656edfead290d6a6a429ec8aa94230b1bca8c0069649146f7f109ac2a16", func := "loop.example/proofarchive/laws.FnReadHex", spec := "fnReadHex", named := ["internal/strconv.uint64pow10", "math/bits.deBruijn32tab", "math/bits.deBruijn64tab"], apart := false, laid := [("math/bits.deBruijn32tab", laid_math_bits_deBruijn32tab), ("math/bits.deBruijn64tab", laid_math_bits_deBruijn64tab), ("internal/strconv.uint64pow10", laid_internal_strconv_uint64pow10)], narrowed := true }
def FnReadHexUptoSaid : Prop := fnReadHexUptoRow.holds Tryd.pinned (OpenSpec.upto fnReadHexSpec)

/-- 'laws.FnExactFolderText', WHERE WHAT IT READS IS OF BULK AT MOST 1048576: true; the input reads as it did. -/
def fnExactFolderTextUptoRow : OpenClaim := { program := "ytfjlocfaibbobaadoor", sum := "594d8656edfead290d6a6a429ec8aa94230b1bca8c0069649146f7f109ac2a16", func := "loop.example/proofarchive/laws.FnExactFolderText", spec := "fnExactFolderText", named := ["internal/strconv.uint64pow10", "math/bits.deBruijn32tab", "math/bits.deBruijn64tab"], apart := false, laid := [("math/bits.deBruijn32tab", laid_math_bits_deBruijn32tab), ("math/bits.deBruijn64tab", laid_math_bits_deBruijn64tab), ("internal/strconv.uint64pow10", laid_internal_strconv_uint64pow10)], narrowed := true }
def FnExactFolderTextUptoSaid : Prop := fnExactFolderTextUptoRow.holds Tryd.pinned (OpenSpec.upto fnExactFolderTextSpec)

/-- 'laws.FnFolderText', WHERE WHAT IT READS IS OF BULK AT MOST 1048576: true; the input reads as it did. -/
def fnFolderTextUptoRow : OpenClaim := { program := "ytfjlocfaibbobaadoor", sum := "594d8656edfead290d6a6a429ec8aa94230b1bca8c0069649146f7f109ac2a16", func := "loop.example/proofarchive/laws.FnFolderText", spec := "fnFolderText", inPlace := ["internal/bytealg.IndexByteString", "internal/bytealg.IndexString"], named := ["internal/strconv.uint64pow10", "math/bits.deBruijn32tab", "math/bits.deBruijn64tab", "internal/bytealg.MaxLen"], apart := false, laid := [("math/bits.deBruijn32tab", laid_math_bits_deBruijn32tab), ("math/bits.deBruijn64tab", laid_math_bits_deBruijn64tab), ("internal/strconv.uint64pow10", laid_internal_strconv_uint64pow10)], narrowed := true }
def FnFolderTextUptoSaid : Prop := fnFolderTextUptoRow.holds Tryd.pinned (OpenSpec.upto fnFolderTextSpec)

/-- 'laws.FnExactReadFolder', WHERE WHAT IT READS IS OF BULK AT MOST 1048576: true; the input reads as it did. -/
def fnExactReadFolderUptoRow : OpenClaim := { program := "ytfjlocfaibbobaadoor", sum := "594d8656edfead290d6a6a429ec8aa94230b1bca8c0069649146f7f109ac2a16", func := "loop.example/proofarchive/laws.FnExactReadFolder", spec := "fnExactReadFolder", inPlace := ["internal/bytealg.IndexByteString", "internal/bytealg.IndexString"], named := ["internal/bytealg.MaxLen", "internal/strconv.uint64pow10", "math/bits.deBruijn32tab", "math/bits.deBruijn64tab"], apart := false, laid := [("math/bits.deBruijn32tab", laid_math_bits_deBruijn32tab), ("math/bits.deBruijn64tab", laid_math_bits_deBruijn64tab), ("internal/strconv.uint64pow10", laid_internal_strconv_uint64pow10)], narrowed := true }
def FnExactReadFolderUptoSaid : Prop := fnExactReadFolderUptoRow.holds Tryd.pinned (OpenSpec.upto fnExactReadFolderSpec)

/-- 'laws.FnReadFolder', WHERE WHAT IT READS IS OF BULK AT MOST 1048576: true; the input reads as it did. -/
def fnReadFolderUptoRow : OpenClaim := { program := "ytfjlocfaibbobaadoor", sum := "594d8656edfead290d6a6a429ec8aa94230b1bca8c0069649146f7f109ac2a16", func := "loop.example/proofarchive/laws.FnReadFolder", spec := "fnReadFolder", inPlace := ["internal/bytealg.IndexByteString", "internal/bytealg.IndexString"], named := ["internal/bytealg.MaxLen", "internal/strconv.uint64pow10", "math/bits.deBruijn32tab", "math/bits.deBruijn64tab"], apart := false, laid := [("math/bits.deBruijn32tab", laid_math_bits_deBruijn32tab), ("math/bits.deBruijn64tab", laid_math_bits_deBruijn64tab), ("internal/strconv.uint64pow10", laid_internal_strconv_uint64pow10)], narrowed := true }
def FnReadFolderUptoSaid : Prop := fnReadFolderUptoRow.holds Tryd.pinned (OpenSpec.upto fnReadFolderSpec)

/-- 'laws.FnExactTextKind', WHERE WHAT IT READS IS OF BULK AT MOST 1048576: true; the input reads as it did. -/
def fnExactTextKindUptoRow : OpenClaim := { program := "ytfjlocfaibbobaadoor", sum := "594d8656edfead290d6a6a429ec8aa94230b1bca8c0069649146f7f109ac2a16", func := "loop.example/proofarchive/laws.FnExactTextKind", spec := "fnExactTextKind", inPlace := ["internal/bytealg.IndexByteString", "internal/bytealg.IndexString"], named := ["internal/bytealg.MaxLen", "internal/strconv.uint64pow10", "math/bits.deBruijn32tab", "math/bits.deBruijn64tab"], apart := false, laid := [("math/bits.deBruijn32tab", laid_math_bits_deBruijn32tab), ("math/bits.deBruijn64tab", laid_math_bits_deBruijn64tab), ("internal/strconv.uint64pow10", laid_internal_strconv_uint64pow10)], narrowed := true }
def FnExactTextKindUptoSaid : Prop := fnExactTextKindUptoRow.holds Tryd.pinned (OpenSpec.upto fnExactTextKindSpec)

end Rows
end Go.Proofs.YtfjlocfaibbobaaDoor
