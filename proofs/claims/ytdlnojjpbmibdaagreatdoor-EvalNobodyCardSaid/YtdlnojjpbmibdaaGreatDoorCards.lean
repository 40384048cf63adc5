/-
  DERIVED. GIVEN WITH THE SEED: THE CARDS: each row of YtdlnojjpbmibdaaGreatDoorRows.lean that lists a variable, with what it lists TIED to the program's text (the seventh form; the later family's looks); each row that meets fmt, with fmt's text TOLD by the authors' own Lean function (tested against real Go, not proved from fmt's source: count such statements apart). THE CARD IS WHAT COUNTS. Prove the row's statement (the work); the ties are given (YtdlnojjpbmibdaaGreatDoorTie.lean); close each card by the builder's one call (the guide's Derived/Test/ToyasCard.lean, 'card_holds'). Laid BY PROGRAM, IN A SANDBOX (cutbox-door.mjs). By AI agents, Wed Nov 11 2026. No macro, syntax, notation, axiom, sorry.
-/
import Derived.Test.YtdlnojjpbmibdaaGreatDoorRows
import GoSem.ClaimSeven
namespace Go.Proofs.YtdlnojjpbmibdaaGreatDoor
namespace Rows

/-- THE TIED CARD OF 'tribunallaw11.EvalNobody'. -/
def evalNobodyCard : Claim7 := { stood := { row := evalNobodyRow, standIns := [], harness := (true, "8c3d635caa6aaabf24079b6ca75a12da6807c2d67bf4840126edf11034f71523"), looks := true }, kinds := [], alts := [], laidByText := true, laidKinds := [.data, .data, .data, .listed, .data], laidTests := true, laidLooks := .later }
def EvalNobodyCardSaid : Prop := Claim7.holds Tryz.pinned (.plain (OpenSpec.ofChange evalNobodySpec)) evalNobodyCard

/-- THE SECOND FORM's CARD OF 'tribunallaw11.EvalNobody'. -/
def evalNobodyUptoCard : Claim7 := { stood := { row := evalNobodyUptoRow, standIns := [], harness := (true, "8c3d635caa6aaabf24079b6ca75a12da6807c2d67bf4840126edf11034f71523"), looks := true }, kinds := [], alts := [], laidByText := true, laidKinds := [.data, .data, .data, .listed, .data], laidTests := true, laidLooks := .later }
def EvalNobodyUptoCardSaid : Prop := Claim7.holds Tryz.pinned (.plain (OpenSpec.upto evalNobodySpec)) evalNobodyUptoCard
end Rows
end Go.Proofs.YtdlnojjpbmibdaaGreatDoor
