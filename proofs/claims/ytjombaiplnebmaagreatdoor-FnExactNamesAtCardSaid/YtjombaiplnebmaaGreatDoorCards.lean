/-
  DERIVED. GIVEN WITH THE SEED: THE CARDS: each row of YtjombaiplnebmaaGreatDoorRows.lean that lists a variable, with what it lists TIED to the program's text (the seventh form; the later family's looks); each row that meets fmt, with fmt's text TOLD by the authors' own Lean function (tested against real Go, not proved from fmt's source: count such statements apart). THE CARD IS WHAT COUNTS. Prove the row's statement (the work); the ties are given (YtjombaiplnebmaaGreatDoorTie.lean); close each card by the builder's one call (the guide's Derived/Test/ToyasCard.lean, 'card_holds'). Laid BY PROGRAM, IN A SANDBOX (cutbox-door.mjs). By AI agents, Wed Nov 11 2026. No macro, syntax, notation, axiom, sorry.
-/
import Derived.Test.YtjombaiplnebmaaGreatDoorRows
import GoSem.ClaimSeven
namespace Go.Proofs.YtjombaiplnebmaaGreatDoor
namespace Rows

/-- THE TIED CARD OF 'laws.FnExactReadAt'. -/
def fnExactReadAtCard : Claim7 := { stood := { row := fnExactReadAtRow, standIns := [], harness := (true, "6822d47d6d70111fbba916f2d5855aaf7c69824795e2589f0ac330ddc372a7fd"), looks := false }, kinds := [], alts := [], laidByText := true, laidKinds := [.data, .data, .data, .data, .pinned], laidTests := true, laidLooks := .later }
def FnExactReadAtCardSaid : Prop := Claim7.holds Tryz.pinned (.plain (OpenSpec.ofChange fnExactReadAtSpec)) fnExactReadAtCard

/-- THE TIED CARD OF 'laws.FnExactNamesAt'. -/
def fnExactNamesAtCard : Claim7 := { stood := { row := fnExactNamesAtRow, standIns := [], harness := (true, "6822d47d6d70111fbba916f2d5855aaf7c69824795e2589f0ac330ddc372a7fd"), looks := false }, kinds := [], alts := [], laidByText := true, laidKinds := [.data, .data, .data, .data, .pinned], laidTests := true, laidLooks := .later }
def FnExactNamesAtCardSaid : Prop := Claim7.holds Tryz.pinned (.plain (OpenSpec.ofChange fnExactNamesAtSpec)) fnExactNamesAtCard

/-- THE SECOND FORM's CARD OF 'laws.FnExactReadAt'. -/
def fnExactReadAtUptoCard : Claim7 := { stood := { row := fnExactReadAtUptoRow, standIns := [], harness := (true, "6822d47d6d70111fbba916f2d5855aaf7c69824795e2589f0ac330ddc372a7fd"), looks := false }, kinds := [], alts := [], laidByText := true, laidKinds := [.data, .data, .data, .data, .pinned], laidTests := true, laidLooks := .later }
def FnExactReadAtUptoCardSaid : Prop := Claim7.holds Tryz.pinned (.plain (OpenSpec.upto fnExactReadAtSpec)) fnExactReadAtUptoCard

/-- THE SECOND FORM's CARD OF 'laws.FnExactNamesAt'. -/
def fnExactNamesAtUptoCard : Claim7 := { stood := { row := fnExactNamesAtUptoRow, standIns := [], harness := (true, "6822d47d6d70111fbba916f2d5855aaf7c69824795e2589f0ac330ddc372a7fd"), looks := false }, kinds := [], alts := [], laidByText := true, laidKinds := [.data, .data, .data, .data, .pinned], laidTests := true, laidLooks := .later }
def FnExactNamesAtUptoCardSaid : Prop := Claim7.holds Tryz.pinned (.plain (OpenSpec.upto fnExactNamesAtSpec)) fnExactNamesAtUptoCard
end Rows
end Go.Proofs.YtjombaiplnebmaaGreatDoor
