/-
  DERIVED. GIVEN WITH THE SEED: THE CARDS: each row of YtfjlocfaibbobaaDoorRows.lean that lists a variable, with what it lists TIED to the program's text (the seventh form; the later family's looks); each row that meets fmt, with fmt's text TOLD by the authors' own Lean function (tested against real Go, not proved from fmt's source: count such statements apart). THE CARD IS WHAT COUNTS. Prove the row's statement (the work); the ties are given (YtfjlocfaibbobaaDoorTie.lean); close each card by the builder's one call (the guide's Derived/Test/ToyasCard.lean, 'card_holds'). Laid BY PROGRAM, IN A SANDBOX (cutbox-door.mjs). By AI agents, Wed Nov 11 2026. No macro, syntax, notation, axiom, sorry.
-/
import Derived.Test.YtfjlocfaibbobaaDoorRows
import GoSem.ClaimSeven
namespace Go.Proofs.YtfjlocfaibbobaaDoor
namespace Rows

/-- THE TIED CARD OF 'laws.FnExactPathBelow'. -/
def fnExactPathBelowCard : Claim7 := { stood := { row := fnExactPathBelowRow, standIns := [], harness := (true, "4aefde0985a5cc9a552540717440ffd4286eb7d794c46c712b59b5921f469e65"), looks := false }, kinds := [], alts := [], laidByText := true, laidKinds := [.data, .pinned], laidTests := true, laidLooks := .later }
def FnExactPathBelowCardSaid : Prop := Claim7.holds Tryd.pinned (.plain (OpenSpec.ofChange fnExactPathBelowSpec)) fnExactPathBelowCard

/-- THE TIED CARD OF 'laws.FnPathBelow'. -/
def fnPathBelowCard : Claim7 := { stood := { row := fnPathBelowRow, standIns := [], harness := (true, "4aefde0985a5cc9a552540717440ffd4286eb7d794c46c712b59b5921f469e65"), looks := false }, kinds := [], alts := [], laidByText := true, laidKinds := [.data, .pinned], laidTests := true, laidLooks := .later }
def FnPathBelowCardSaid : Prop := Claim7.holds Tryd.pinned (.plain (OpenSpec.ofChange fnPathBelowSpec)) fnPathBelowCard

/-- THE TIED CARD OF 'laws.FnJoinPath'. -/
def fnJoinPathCard : Claim7 := { stood := { row := fnJoinPathRow, standIns := [], harness := (true, "4aefde0985a5cc9a552540717440ffd4286eb7d794c46c712b59b5921f469e65"), looks := false }, kinds := [], alts := [], laidByText := true, laidKinds := [.data, .pinned], laidTests := true, laidLooks := .later }
def FnJoinPathCardSaid : Prop := Claim7.holds Tryd.pinned (.plain (OpenSpec.ofChange fnJoinPathSpec)) fnJoinPathCard

/-- THE TIED CARD OF 'laws.FnExactHexText'. -/
def fnExactHexTextCard : Claim7 := { stood := { row := fnExactHexTextRow, standIns := [], harness := (true, "4aefde0985a5cc9a552540717440ffd4286eb7d794c46c712b59b5921f469e65"), looks := false }, kinds := [], alts := [], laidByText := true, laidKinds := [.data, .data, .data], laidTests := true, laidLooks := .later }
def FnExactHexTextCardSaid : Prop := Claim7.holds Tryd.pinned (.plain (OpenSpec.ofChange fnExactHexTextSpec)) fnExactHexTextCard

/-- THE TIED CARD OF 'laws.FnHexText'. -/
def fnHexTextCard : Claim7 := { stood := { row := fnHexTextRow, standIns := [], harness := (true, "4aefde0985a5cc9a552540717440ffd4286eb7d794c46c712b59b5921f469e65"), looks := false }, kinds := [], alts := [], laidByText := true, laidKinds := [.data, .data, .data], laidTests := true, laidLooks := .later }
def FnHexTextCardSaid : Prop := Claim7.holds Tryd.pinned (.plain (OpenSpec.ofChange fnHexTextSpec)) fnHexTextCard

/-- THE TIED CARD OF 'laws.FnExactReadHex'. -/
def fnExactReadHexCard : Claim7 := { stood := { row := fnExactReadHexRow, standIns := [], harness := (true, "4aefde0985a5cc9a552540717440ffd4286eb7d794c46c712b59b5921f469e65"), looks := false }, kinds := [], alts := [], laidByText := true, laidKinds := [.data, .data, .data], laidTests := true, laidLooks := .later }
def FnExactReadHexCardSaid : Prop := Claim7.holds Tryd.pinned (.plain (OpenSpec.ofChange fnExactReadHexSpec)) fnExactReadHexCard

/-- THE TIED CARD OF 'laws.FnReadHex'. -/
def fnReadHexCard : Claim7 := { stood := { row := fnReadHexRow, standIns := [], harness := (true, "4aefde0985a5cc9a552540717440ffd4286eb7d794c46c712b59b5921f469e65"), looks := false }, kinds := [], alts := [], laidByText := true, laidKinds := [.data, .data, .data], laidTests := true, laidLooks := .later }
def FnReadHexCardSaid : Prop := Claim7.holds Tryd.pinned (.plain (OpenSpec.ofChange fnReadHexSpec)) fnReadHexCard

/-- THE TIED CARD OF 'laws.FnExactFolderText'. -/
def fnExactFolderTextCard : Claim7 := { stood := { row := fnExactFolderTextRow, standIns := [], harness := (true, "4aefde0985a5cc9a552540717440ffd4286eb7d794c46c712b59b5921f469e65"), looks := false }, kinds := [], alts := [], laidByText := true, laidKinds := [.data, .data, .data], laidTests := true, laidLooks := .later }
def FnExactFolderTextCardSaid : Prop := Claim7.holds Tryd.pinned (.plain (OpenSpec.ofChange fnExactFolderTextSpec)) fnExactFolderTextCard

/-- THE TIED CARD OF 'laws.FnFolderText'. -/
def fnFolderTextCard : Claim7 := { stood := { row := fnFolderTextRow, standIns := [], harness := (true, "4aefde0985a5cc9a552540717440ffd4286eb7d794c46c712b59b5921f469e65"), looks := false }, kinds := [], alts := [], laidByText := true, laidKinds := [.data, .data, .data], laidTests := true, laidLooks := .later }
def FnFolderTextCardSaid : Prop := Claim7.holds Tryd.pinned (.plain (OpenSpec.ofChange fnFolderTextSpec)) fnFolderTextCard

/-- THE TIED CARD OF 'laws.FnExactReadFolder'. -/
def fnExactReadFolderCard : Claim7 := { stood := { row := fnExactReadFolderRow, standIns := [], harness := (true, "4aefde0985a5cc9a552540717440ffd4286eb7d794c46c712b59b5921f469e65"), looks := false }, kinds := [], alts := [], laidByText := true, laidKinds := [.data, .data, .data], laidTests := true, laidLooks := .later }
def FnExactReadFolderCardSaid : Prop := Claim7.holds Tryd.pinned (.plain (OpenSpec.ofChange fnExactReadFolderSpec)) fnExactReadFolderCard

/-- THE TIED CARD OF 'laws.FnReadFolder'. -/
def fnReadFolderCard : Claim7 := { stood := { row := fnReadFolderRow, standIns := [], harness := (true, "4aefde0985a5cc9a552540717440ffd4286eb7d794c46c712b59b5921f469e65"), looks := false }, kinds := [], alts := [], laidByText := true, laidKinds := [.data, .data, .data], laidTests := true, laidLooks := .later }
def FnReadFolderCardSaid : Prop := Claim7.holds Tryd.pinned (.plain (OpenSpec.ofChange fnReadFolderSpec)) fnReadFolderCard

/-- THE TIED CARD OF 'laws.FnExactTextKind'. -/
def fnExactTextKindCard : Claim7 := { stood := { row := fnExactTextKindRow, standIns := [], harness := (true, "4aefde0985a5cc9a552540717440ffd4286eb7d794c46c712b59b5921f469e65"), looks := false }, kinds := [], alts := [], laidByText := true, laidKinds := [.data, .data, .data], laidTests := true, laidLooks := .later }
def FnExactTextKindCardSaid : Prop := Claim7.holds Tryd.pinned (.plain (OpenSpec.ofChange fnExactTextKindSpec)) fnExactTextKindCard

/-- THE SECOND FORM's CARD OF 'laws.FnExactPathBelow'. -/
def fnExactPathBelowUptoCard : Claim7 := { stood := { row := fnExactPathBelowUptoRow, standIns := [], harness := (true, "4aefde0985a5cc9a552540717440ffd4286eb7d794c46c712b59b5921f469e65"), looks := false }, kinds := [], alts := [], laidByText := true, laidKinds := [.data, .pinned], laidTests := true, laidLooks := .later }
def FnExactPathBelowUptoCardSaid : Prop := Claim7.holds Tryd.pinned (.plain (OpenSpec.upto fnExactPathBelowSpec)) fnExactPathBelowUptoCard

/-- THE SECOND FORM's CARD OF 'laws.FnPathBelow'. -/
def fnPathBelowUptoCard : Claim7 := { stood := { row := fnPathBelowUptoRow, standIns := [], harness := (true, "4aefde0985a5cc9a552540717440ffd4286eb7d794c46c712b59b5921f469e65"), looks := false }, kinds := [], alts := [], laidByText := true, laidKinds := [.data, .pinned], laidTests := true, laidLooks := .later }
def FnPathBelowUptoCardSaid : Prop := Claim7.holds Tryd.pinned (.plain (OpenSpec.upto fnPathBelowSpec)) fnPathBelowUptoCard

/-- THE SECOND FORM's CARD OF 'laws.FnJoinPath'. -/
def fnJoinPathUptoCard : Claim7 := { stood := { row := fnJoinPathUptoRow, standIns := [], harness := (true, "4aefde0985a5cc9a552540717440ffd4286eb7d794c46c712b59b5921f469e65"), looks := false }, kinds := [], alts := [], laidByText := true, laidKinds := [.data, .pinned], laidTests := true, laidLooks := .later }
def FnJoinPathUptoCardSaid : Prop := Claim7.holds Tryd.pinned (.plain (OpenSpec.upto fnJoinPathSpec)) fnJoinPathUptoCard

/-- THE SECOND FORM's CARD OF 'laws.FnExactHexText'. -/
def fnExactHexTextUptoCard : Claim7 := { stood := { row := fnExactHexTextUptoRow, standIns := [], harness := (true, "4aefde0985a5cc9a552540717440ffd4286eb7d794c46c712b59b5921f469e65"), looks := false }, kinds := [], alts := [], laidByText := true, laidKinds := [.data, .data, .data], laidTests := true, laidLooks := .later }
def FnExactHexTextUptoCardSaid : Prop := Claim7.holds Tryd.pinned (.plain (OpenSpec.upto fnExactHexTextSpec)) fnExactHexTextUptoCard

/-- THE SECOND FORM's CARD OF 'laws.FnHexText'. -/
def fnHexTextUptoCard : Claim7 := { stood := { row := fnHexTextUptoRow, standIns := [], harness := (true, "4aefde0985a5cc9a552540717440ffd4286eb7d794c46c712b59b5921f469e65"), looks := false }, kinds := [], alts := [], laidByText := true, laidKinds := [.data, .data, .data], laidTests := true, laidLooks := .later }
def FnHexTextUptoCardSaid : Prop := Claim7.holds Tryd.pinned (.plain (OpenSpec.upto fnHexTextSpec)) fnHexTextUptoCard

/-- THE SECOND FORM's CARD OF 'laws.FnExactReadHex'. -/
def fnExactReadHexUptoCard : Claim7 := { stood := { row := fnExactReadHexUptoRow, standIns := [], harness := (true, "4aefde0985a5cc9a552540717440ffd4286eb7d794c46c712b59b5921f469e65"), looks := false }, kinds := [], alts := [], laidByText := true, laidKinds := [.data, .data, .data], laidTests := true, laidLooks := .later }
def FnExactReadHexUptoCardSaid : Prop := Claim7.holds Tryd.pinned (.plain (OpenSpec.upto fnExactReadHexSpec)) fnExactReadHexUptoCard

/-- THE SECOND FORM's CARD OF 'laws.FnReadHex'. -/
def fnReadHexUptoCard : Claim7 := { stood := { row := fnReadHexUptoRow, standIns := [], harness := (true, "4aefde0985a5cc9a552540717440ffd4286eb7d794c46c712b59b5921f469e65"), looks := false }, kinds := [], alts := [], laidByText := true, laidKinds := [.data, .data, .data], laidTests := true, laidLooks := .later }
def FnReadHexUptoCardSaid : Prop := Claim7.holds Tryd.pinned (.plain (OpenSpec.upto fnReadHexSpec)) fnReadHexUptoCard

/-- THE SECOND FORM's CARD OF 'laws.FnExactFolderText'. -/
def fnExactFolderTextUptoCard : Claim7 := { stood := { row := fnExactFolderTextUptoRow, standIns := [], harness := (true, "4aefde0985a5cc9a552540717440ffd4286eb7d794c46c712b59b5921f469e65"), looks := false }, kinds := [], alts := [], laidByText := true, laidKinds := [.data, .data, .data], laidTests := true, laidLooks := .later }
def FnExactFolderTextUptoCardSaid : Prop := Claim7.holds Tryd.pinned (.plain (OpenSpec.upto fnExactFolderTextSpec)) fnExactFolderTextUptoCard

/-- THE SECOND FORM's CARD OF 'laws.FnFolderText'. -/
def fnFolderTextUptoCard : Claim7 := { stood := { row := fnFolderTextUptoRow, standIns := [], harness := (true, "4aefde0985a5cc9a552540717440ffd4286eb7d794c46c712b59b5921f469e65"), looks := false }, kinds := [], alts := [], laidByText := true, laidKinds := [.data, .data, .data], laidTests := true, laidLooks := .later }
def FnFolderTextUptoCardSaid : Prop := Claim7.holds Tryd.pinned (.plain (OpenSpec.upto fnFolderTextSpec)) fnFolderTextUptoCard

/-- THE SECOND FORM's CARD OF 'laws.FnExactReadFolder'. -/
def fnExactReadFolderUptoCard : Claim7 := { stood := { row := fnExactReadFolderUptoRow, standIns := [], harness := (true, "4aefde0985a5cc9a552540717440ffd4286eb7d794c46c712b59b5921f469e65"), looks := false }, kinds := [], alts := [], laidByText := true, laidKinds := [.data, .data, .data], laidTests := true, laidLooks := .later }
def FnExactReadFolderUptoCardSaid : Prop := Claim7.holds Tryd.pinned (.plain (OpenSpec.upto fnExactReadFolderSpec)) fnExactReadFolderUptoCard

/-- THE SECOND FORM's CARD OF 'laws.FnReadFolder'. -/
def fnReadFolderUptoCard : Claim7 := { stood := { row := fnReadFolderUptoRow, standIns := [], harness := (true, "4aefde0985a5cc9a552540717440ffd4286eb7d794c46c712b59b5921f469e65"), looks := false }, kinds := [], alts := [], laidByText := true, laidKinds := [.data, .data, .data], laidTests := true, laidLooks := .later }
def FnReadFolderUptoCardSaid : Prop := Claim7.holds Tryd.pinned (.plain (OpenSpec.upto fnReadFolderSpec)) fnReadFolderUptoCard

/-- THE SECOND FORM's CARD OF 'laws.FnExactTextKind'. -/
def fnExactTextKindUptoCard : Claim7 := { stood := { row := fnExactTextKindUptoRow, standIns := [], harness := (true, "4aefde0985a5cc9a552540717440ffd4286eb7d794c46c712b59b5921f469e65"), looks := false }, kinds := [], alts := [], laidByText := true, laidKinds := [.data, .data, .data], laidTests := true, laidLooks := .later }
def FnExactTextKindUptoCardSaid : Prop := Claim7.holds Tryd.pinned (.plain (OpenSpec.upto fnExactTextKindSpec)) fnExactTextKindUptoCard
end Rows
end Go.Proofs.YtfjlocfaibbobaaDoor
