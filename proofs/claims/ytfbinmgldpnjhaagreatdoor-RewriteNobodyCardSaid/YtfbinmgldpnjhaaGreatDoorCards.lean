/-
  DERIVED. GIVEN WITH THE SEED: THE CARDS: each row of YtfbinmgldpnjhaaGreatDoorRows.lean that lists a variable, with what it lists TIED to the program's text (the seventh form; the later family's looks); each row that meets fmt, with fmt's text TOLD by the authors' own Lean function (tested against real Go, not proved from fmt's source: count such statements apart). THE CARD IS WHAT COUNTS. Prove the row's statement (the work); the ties are given (YtfbinmgldpnjhaaGreatDoorTie.lean); close each card by the builder's one call (the guide's Derived/Test/ToyasCard.lean, 'card_holds'). Laid BY PROGRAM, IN A SANDBOX (cutbox-door.mjs). By AI agents, Wed Nov 11 2026. No macro, syntax, notation, axiom, sorry.
-/
import Derived.Test.YtfbinmgldpnjhaaGreatDoorRows
import GoSem.ClaimSeven
namespace Go.Proofs.YtfbinmgldpnjhaaGreatDoor
namespace Rows

/-- THE TIED CARD OF 'tribunallaw12.RewriteNobody'. -/
def rewriteNobodyCard : Claim7 := { stood := { row := rewriteNobodyRow, standIns := [], harness := (true, "304a58362dc8f9f18488dd3b0c96645c92c444742e0bd2bab25f72b9d672410b"), looks := true }, kinds := [], alts := [], laidByText := true, laidKinds := [.data, .data, .data, .listed, .data], laidTests := true, laidLooks := .later }
def RewriteNobodyCardSaid : Prop := Claim7.holds Tryz.pinned (.plain (OpenSpec.ofChange rewriteNobodySpec)) rewriteNobodyCard

/-- THE SECOND FORM's CARD OF 'tribunallaw12.RewriteNobody'. -/
def rewriteNobodyUptoCard : Claim7 := { stood := { row := rewriteNobodyUptoRow, standIns := [], harness := (true, "304a58362dc8f9f18488dd3b0c96645c92c444742e0bd2bab25f72b9d672410b"), looks := true }, kinds := [], alts := [], laidByText := true, laidKinds := [.data, .data, .data, .listed, .data], laidTests := true, laidLooks := .later }
def RewriteNobodyUptoCardSaid : Prop := Claim7.holds Tryz.pinned (.plain (OpenSpec.upto rewriteNobodySpec)) rewriteNobodyUptoCard
end Rows
end Go.Proofs.YtfbinmgldpnjhaaGreatDoor
