/-
  DERIVED. GIVEN WITH THE SEED: THE CARDS: each row of YtjombaiplnebmaaDoorRows.lean that lists a variable, with what it lists TIED to the program's text (the seventh form; the later family's looks); each row that meets fmt, with fmt's text TOLD by the authors' own Lean function (tested against real Go, not proved from fmt's source: count such statements apart). THE CARD IS WHAT COUNTS. Prove the row's statement (the work); the ties are given (YtjombaiplnebmaaDoorTie.lean); close each card by the builder's one call (the guide's Derived/Test/ToyasCard.lean, 'card_holds'). Laid BY PROGRAM, IN A SANDBOX (cutbox-door.mjs). By AI agents, Wed Nov 11 2026. No macro, syntax, notation, axiom, sorry.
-/
import Derived.Test.YtjombaiplnebmaaDoorRows
import GoSem.ClaimSeven
namespace Go.Proofs.YtjombaiplnebmaaDoor
namespace Rows

/-- THE TIED CARD OF 'laws.FnTextKind'. -/
def fnTextKindCard : Claim7 := { stood := { row := fnTextKindRow, standIns := [], harness := (true, "d46d52f8f203dd22188ce95e40a9d4178d44b145294aac80befad3a01b19fc9b"), looks := false }, kinds := [], alts := [], laidByText := true, laidKinds := [.data, .data, .data], laidTests := true, laidLooks := .later }
def FnTextKindCardSaid : Prop := Claim7.holds Tryd.pinned (.plain (OpenSpec.ofChange fnTextKindSpec)) fnTextKindCard

/-- THE TIED CARD OF 'laws.FnExactEmptyRoot'. -/
def fnExactEmptyRootCard : Claim7 := { stood := { row := fnExactEmptyRootRow, standIns := [], harness := (true, "d46d52f8f203dd22188ce95e40a9d4178d44b145294aac80befad3a01b19fc9b"), looks := false }, kinds := [], alts := [], laidByText := true, laidKinds := [.data, .data, .data], laidTests := true, laidLooks := .later }
def FnExactEmptyRootCardSaid : Prop := Claim7.holds Tryd.pinned (.plain (OpenSpec.ofChange fnExactEmptyRootSpec)) fnExactEmptyRootCard

/-- THE TIED CARD OF 'laws.FnExactWalkTo'. -/
def fnExactWalkToCard : Claim7 := { stood := { row := fnExactWalkToRow, standIns := [], harness := (true, "d46d52f8f203dd22188ce95e40a9d4178d44b145294aac80befad3a01b19fc9b"), looks := false }, kinds := [], alts := [], laidByText := true, laidKinds := [.data, .data, .data, .data, .pinned], laidTests := true, laidLooks := .later }
def FnExactWalkToCardSaid : Prop := Claim7.holds Tryd.pinned (.plain (OpenSpec.ofChange fnExactWalkToSpec)) fnExactWalkToCard

/-- THE SECOND FORM's CARD OF 'laws.FnTextKind'. -/
def fnTextKindUptoCard : Claim7 := { stood := { row := fnTextKindUptoRow, standIns := [], harness := (true, "d46d52f8f203dd22188ce95e40a9d4178d44b145294aac80befad3a01b19fc9b"), looks := false }, kinds := [], alts := [], laidByText := true, laidKinds := [.data, .data, .data], laidTests := true, laidLooks := .later }
def FnTextKindUptoCardSaid : Prop := Claim7.holds Tryd.pinned (.plain (OpenSpec.upto fnTextKindSpec)) fnTextKindUptoCard

/-- THE SECOND FORM's CARD OF 'laws.FnExactEmptyRoot'. -/
def fnExactEmptyRootUptoCard : Claim7 := { stood := { row := fnExactEmptyRootUptoRow, standIns := [], harness := (true, "d46d52f8f203dd22188ce95e40a9d4178d44b145294aac80befad3a01b19fc9b"), looks := false }, kinds := [], alts := [], laidByText := true, laidKinds := [.data, .data, .data], laidTests := true, laidLooks := .later }
def FnExactEmptyRootUptoCardSaid : Prop := Claim7.holds Tryd.pinned (.plain (OpenSpec.upto fnExactEmptyRootSpec)) fnExactEmptyRootUptoCard

/-- THE SECOND FORM's CARD OF 'laws.FnExactWalkTo'. -/
def fnExactWalkToUptoCard : Claim7 := { stood := { row := fnExactWalkToUptoRow, standIns := [], harness := (true, "d46d52f8f203dd22188ce95e40a9d4178d44b145294aac80befad3a01b19fc9b"), looks := false }, kinds := [], alts := [], laidByText := true, laidKinds := [.data, .data, .data, .data, .pinned], laidTests := true, laidLooks := .later }
def FnExactWalkToUptoCardSaid : Prop := Claim7.holds Tryd.pinned (.plain (OpenSpec.upto fnExactWalkToSpec)) fnExactWalkToUptoCard
end Rows
end Go.Proofs.YtjombaiplnebmaaDoor
