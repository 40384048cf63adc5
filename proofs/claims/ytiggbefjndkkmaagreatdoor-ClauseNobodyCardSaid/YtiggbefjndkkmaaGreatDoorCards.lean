/-
  DERIVED. GIVEN WITH THE SEED: THE CARDS: each row of YtiggbefjndkkmaaGreatDoorRows.lean that lists a variable, with what it lists TIED to the program's text (the seventh form; the later family's looks); each row that meets fmt, with fmt's text TOLD by the authors' own Lean function (tested against real Go, not proved from fmt's source: count such statements apart). THE CARD IS WHAT COUNTS. Prove the row's statement (the work); the ties are given (YtiggbefjndkkmaaGreatDoorTie.lean); close each card by the builder's one call (the guide's Derived/Test/ToyasCard.lean, 'card_holds'). Laid BY PROGRAM, IN A SANDBOX (cutbox-door.mjs). By AI agents, Wed Nov 11 2026. No macro, syntax, notation, axiom, sorry.
-/
import Derived.Test.YtiggbefjndkkmaaGreatDoorRows
import GoSem.ClaimSeven
namespace Go.Proofs.YtiggbefjndkkmaaGreatDoor
namespace Rows

/-- THE TIED CARD OF 'tribunallaw13.ClauseNobody'. -/
def clauseNobodyCard : Claim7 := { stood := { row := clauseNobodyRow, standIns := [], harness := (true, "554bfc90653064175beee30ee61b1f3dc047abb269e6acd21dca88e3c8f73e04"), looks := false }, kinds := [], alts := [], laidByText := true, laidKinds := [.data, .data, .data, .listed, .data], laidTests := true, laidLooks := .later }
def ClauseNobodyCardSaid : Prop := Claim7.holds Tryz.pinned (.plain (OpenSpec.ofChange clauseNobodySpec)) clauseNobodyCard

/-- THE SECOND FORM's CARD OF 'tribunallaw13.ClauseNobody'. -/
def clauseNobodyUptoCard : Claim7 := { stood := { row := clauseNobodyUptoRow, standIns := [], harness := (true, "554bfc90653064175beee30ee61b1f3dc047abb269e6acd21dca88e3c8f73e04"), looks := false }, kinds := [], alts := [], laidByText := true, laidKinds := [.data, .data, .data, .listed, .data], laidTests := true, laidLooks := .later }
def ClauseNobodyUptoCardSaid : Prop := Claim7.holds Tryz.pinned (.plain (OpenSpec.upto clauseNobodySpec)) clauseNobodyUptoCard
end Rows
end Go.Proofs.YtiggbefjndkkmaaGreatDoor
