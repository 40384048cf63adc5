/-
  DERIVED. GIVEN WITH THE SEED: THE CARDS: each row of YtgkogeglciogkaaGreatDoorRows.lean that lists a variable, with what it lists TIED to the program's text (the seventh form; the later family's looks); each row that meets fmt, with fmt's text TOLD by the authors' own Lean function (tested against real Go, not proved from fmt's source: count such statements apart). THE CARD IS WHAT COUNTS. Prove the row's statement (the work); the ties are given (YtgkogeglciogkaaGreatDoorTie.lean); close each card by the builder's one call (the guide's Derived/Test/ToyasCard.lean, 'card_holds'). Laid BY PROGRAM, IN A SANDBOX (cutbox-door.mjs). By AI agents, Wed Nov 11 2026. No macro, syntax, notation, axiom, sorry.
-/
import Derived.Test.YtgkogeglciogkaaGreatDoorRows
import GoSem.ClaimSeven
namespace Go.Proofs.YtgkogeglciogkaaGreatDoor
namespace Rows

/-- THE TIED CARD OF 'tribunallaw05.TermNobody'. -/
def termNobodyCard : Claim7 := { stood := { row := termNobodyRow, standIns := [], harness := (true, "7166bc28fefc51245b9d847fff10d15460ebcf70c6d29d00605788c8295ca33c"), looks := false }, kinds := [], alts := [], laidByText := true, laidKinds := [.data, .data, .data, .listed, .data], laidTests := true, laidLooks := .later }
def TermNobodyCardSaid : Prop := Claim7.holds Tryz.pinned (.plain (OpenSpec.ofChange termNobodySpec)) termNobodyCard

/-- THE SECOND FORM's CARD OF 'tribunallaw05.TermNobody'. -/
def termNobodyUptoCard : Claim7 := { stood := { row := termNobodyUptoRow, standIns := [], harness := (true, "7166bc28fefc51245b9d847fff10d15460ebcf70c6d29d00605788c8295ca33c"), looks := false }, kinds := [], alts := [], laidByText := true, laidKinds := [.data, .data, .data, .listed, .data], laidTests := true, laidLooks := .later }
def TermNobodyUptoCardSaid : Prop := Claim7.holds Tryz.pinned (.plain (OpenSpec.upto termNobodySpec)) termNobodyUptoCard
end Rows
end Go.Proofs.YtgkogeglciogkaaGreatDoor
