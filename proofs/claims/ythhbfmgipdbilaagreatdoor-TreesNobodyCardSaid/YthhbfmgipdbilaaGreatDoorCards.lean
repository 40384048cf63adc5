/-
  DERIVED. GIVEN WITH THE SEED: THE CARDS: each row of YthhbfmgipdbilaaGreatDoorRows.lean that lists a variable, with what it lists TIED to the program's text (the seventh form; the later family's looks); each row that meets fmt, with fmt's text TOLD by the authors' own Lean function (tested against real Go, not proved from fmt's source: count such statements apart). THE CARD IS WHAT COUNTS. Prove the row's statement (the work); the ties are given (YthhbfmgipdbilaaGreatDoorTie.lean); close each card by the builder's one call (the guide's Derived/Test/ToyasCard.lean, 'card_holds'). Laid BY PROGRAM, IN A SANDBOX (cutbox-door.mjs). By AI agents, Wed Nov 11 2026. No macro, syntax, notation, axiom, sorry.
-/
import Derived.Test.YthhbfmgipdbilaaGreatDoorRows
import GoSem.ClaimSeven
namespace Go.Proofs.YthhbfmgipdbilaaGreatDoor
namespace Rows

/-- THE TIED CARD OF 'tribunallaw21.TreesNobody'. -/
def treesNobodyCard : Claim7 := { stood := { row := treesNobodyRow, standIns := [], harness := (true, "04bd9491a4fa397110364dd9459e9f91c9a7e0a5575d55e511b013dd30df4422"), looks := true }, kinds := [], alts := [], laidByText := true, laidKinds := [.data, .data, .data, .listed, .data], laidTests := true, laidLooks := .later }
def TreesNobodyCardSaid : Prop := Claim7.holds Tryz.pinned (.plain (OpenSpec.ofChange treesNobodySpec)) treesNobodyCard

/-- THE SECOND FORM's CARD OF 'tribunallaw21.TreesNobody'. -/
def treesNobodyUptoCard : Claim7 := { stood := { row := treesNobodyUptoRow, standIns := [], harness := (true, "04bd9491a4fa397110364dd9459e9f91c9a7e0a5575d55e511b013dd30df4422"), looks := true }, kinds := [], alts := [], laidByText := true, laidKinds := [.data, .data, .data, .listed, .data], laidTests := true, laidLooks := .later }
def TreesNobodyUptoCardSaid : Prop := Claim7.holds Tryz.pinned (.plain (OpenSpec.upto treesNobodySpec)) treesNobodyUptoCard
end Rows
end Go.Proofs.YthhbfmgipdbilaaGreatDoor
