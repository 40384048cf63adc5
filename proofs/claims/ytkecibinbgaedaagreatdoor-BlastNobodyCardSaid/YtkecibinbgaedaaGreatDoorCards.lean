/-
  DERIVED. GIVEN WITH THE SEED: THE CARDS: each row of YtkecibinbgaedaaGreatDoorRows.lean that lists a variable, with what it lists TIED to the program's text (the seventh form; the later family's looks); each row that meets fmt, with fmt's text TOLD by the authors' own Lean function (tested against real Go, not proved from fmt's source: count such statements apart). THE CARD IS WHAT COUNTS. Prove the row's statement (the work); the ties are given (YtkecibinbgaedaaGreatDoorTie.lean); close each card by the builder's one call (the guide's Derived/Test/ToyasCard.lean, 'card_holds'). Laid BY PROGRAM, IN A SANDBOX (cutbox-door.mjs). By AI agents, Wed Nov 11 2026. No macro, syntax, notation, axiom, sorry.
-/
import Derived.Test.YtkecibinbgaedaaGreatDoorRows
import GoSem.ClaimSeven
namespace Go.Proofs.YtkecibinbgaedaaGreatDoor
namespace Rows

/-- THE TIED CARD OF 'tribunallaw19.BlastNobody'. -/
def blastNobodyCard : Claim7 := { stood := { row := blastNobodyRow, standIns := [], harness := (true, "e972988a253edf4c714b4fee399044deb355a24bb499499a540e3564c9006231"), looks := false }, kinds := [], alts := [], laidByText := true, laidKinds := [.data, .data, .data, .listed, .data], laidTests := true, laidLooks := .later }
def BlastNobodyCardSaid : Prop := Claim7.holds Tryz.pinned (.plain (OpenSpec.ofChange blastNobodySpec)) blastNobodyCard

/-- THE SECOND FORM's CARD OF 'tribunallaw19.BlastNobody'. -/
def blastNobodyUptoCard : Claim7 := { stood := { row := blastNobodyUptoRow, standIns := [], harness := (true, "e972988a253edf4c714b4fee399044deb355a24bb499499a540e3564c9006231"), looks := false }, kinds := [], alts := [], laidByText := true, laidKinds := [.data, .data, .data, .listed, .data], laidTests := true, laidLooks := .later }
def BlastNobodyUptoCardSaid : Prop := Claim7.holds Tryz.pinned (.plain (OpenSpec.upto blastNobodySpec)) blastNobodyUptoCard
end Rows
end Go.Proofs.YtkecibinbgaedaaGreatDoor
