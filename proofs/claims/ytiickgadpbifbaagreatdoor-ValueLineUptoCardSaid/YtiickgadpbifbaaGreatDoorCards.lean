/-
  DERIVED. GIVEN WITH THE SEED: THE CARDS: each row of YtiickgadpbifbaaGreatDoorRows.lean that lists a variable, with what it lists TIED to the program's text (the seventh form; the later family's looks); each row that meets fmt, with fmt's text TOLD by the authors' own Lean function (tested against real Go, not proved from fmt's source: count such statements apart). THE CARD IS WHAT COUNTS. Prove the row's statement (the work); the ties are given (YtiickgadpbifbaaGreatDoorTie.lean); close each card by the builder's one call (the guide's Derived/Test/ToyasCard.lean, 'card_holds'). Laid BY PROGRAM, IN A SANDBOX (cutbox-door.mjs). By AI agents, Wed Nov 11 2026. No macro, syntax, notation, axiom, sorry.
-/
import Derived.Test.YtiickgadpbifbaaGreatDoorRows
import GoSem.ClaimSeven
namespace Go.Proofs.YtiickgadpbifbaaGreatDoor
namespace Rows

/-- THE TIED CARD OF 'tribunallaw10.ValueLine'. -/
def valueLineCard : Claim7 := { stood := { row := valueLineRow, standIns := [], harness := (true, "e0718cdbba8cdb20080c68f7359b04a2da34e7a49caf5d7c06abd2599d252f33"), looks := true }, kinds := [], alts := [], laidByText := true, laidKinds := [.data, .data, .data, .listed, .data], laidTests := true, laidLooks := .later }
def ValueLineCardSaid : Prop := Claim7.holds Tryz.pinned (.plain (OpenSpec.ofChange valueLineSpec)) valueLineCard

/-- THE SECOND FORM's CARD OF 'tribunallaw10.ValueLine'. -/
def valueLineUptoCard : Claim7 := { stood := { row := valueLineUptoRow, standIns := [], harness := (true, "e0718cdbba8cdb20080c68f7359b04a2da34e7a49caf5d7c06abd2599d252f33"), looks := true }, kinds := [], alts := [], laidByText := true, laidKinds := [.data, .data, .data, .listed, .data], laidTests := true, laidLooks := .later }
def ValueLineUptoCardSaid : Prop := Claim7.holds Tryz.pinned (.plain (OpenSpec.upto valueLineSpec)) valueLineUptoCard
end Rows
end Go.Proofs.YtiickgadpbifbaaGreatDoor
