/-
  DERIVED. GIVEN WITH THE SEED: THE CARDS: each row of YtgnliaekngbmbaaDoorRows.lean that lists a variable, with what it lists TIED to the program's text (the seventh form; the later family's looks); each row that meets fmt, with fmt's text TOLD by the authors' own Lean function (tested against real Go, not proved from fmt's source: count such statements apart). THE CARD IS WHAT COUNTS. Prove the row's statement (the work); the ties are given (YtgnliaekngbmbaaDoorTie.lean); close each card by the builder's one call (the guide's Derived/Test/ToyasCard.lean, 'card_holds'). Laid BY PROGRAM, IN A SANDBOX (cutbox-door.mjs). By AI agents, Wed Nov 11 2026. No macro, syntax, notation, axiom, sorry.
-/
import Derived.Test.YtgnliaekngbmbaaDoorRows
import GoSem.ClaimSeven
namespace Go.Proofs.YtgnliaekngbmbaaDoor
namespace Rows

/-- THE TIED CARD OF 'laws.FnExactPathParts'. -/
def fnExactPathPartsCard : Claim7 := { stood := { row := fnExactPathPartsRow, standIns := [], harness := (true, "1808ba95837a041d3ba16ec931b3dccefdc4b0db8f8e448bd0fa0b1aa9a51082"), looks := false }, kinds := [], alts := [], laidByText := true, laidKinds := [.data, .pinned], laidTests := true, laidLooks := .later }
def FnExactPathPartsCardSaid : Prop := Claim7.holds Tryd.pinned (.plain (OpenSpec.ofChange fnExactPathPartsSpec)) fnExactPathPartsCard

/-- THE TIED CARD OF 'laws.FnPathParts'. -/
def fnPathPartsCard : Claim7 := { stood := { row := fnPathPartsRow, standIns := [], harness := (true, "1808ba95837a041d3ba16ec931b3dccefdc4b0db8f8e448bd0fa0b1aa9a51082"), looks := false }, kinds := [], alts := [], laidByText := true, laidKinds := [.data, .pinned], laidTests := true, laidLooks := .later }
def FnPathPartsCardSaid : Prop := Claim7.holds Tryd.pinned (.plain (OpenSpec.ofChange fnPathPartsSpec)) fnPathPartsCard

/-- THE SECOND FORM's CARD OF 'laws.FnExactPathParts'. -/
def fnExactPathPartsUptoCard : Claim7 := { stood := { row := fnExactPathPartsUptoRow, standIns := [], harness := (true, "1808ba95837a041d3ba16ec931b3dccefdc4b0db8f8e448bd0fa0b1aa9a51082"), looks := false }, kinds := [], alts := [], laidByText := true, laidKinds := [.data, .pinned], laidTests := true, laidLooks := .later }
def FnExactPathPartsUptoCardSaid : Prop := Claim7.holds Tryd.pinned (.plain (OpenSpec.upto fnExactPathPartsSpec)) fnExactPathPartsUptoCard

/-- THE SECOND FORM's CARD OF 'laws.FnPathParts'. -/
def fnPathPartsUptoCard : Claim7 := { stood := { row := fnPathPartsUptoRow, standIns := [], harness := (true, "1808ba95837a041d3ba16ec931b3dccefdc4b0db8f8e448bd0fa0b1aa9a51082"), looks := false }, kinds := [], alts := [], laidByText := true, laidKinds := [.data, .pinned], laidTests := true, laidLooks := .later }
def FnPathPartsUptoCardSaid : Prop := Claim7.holds Tryd.pinned (.plain (OpenSpec.upto fnPathPartsSpec)) fnPathPartsUptoCard
end Rows
end Go.Proofs.YtgnliaekngbmbaaDoor
