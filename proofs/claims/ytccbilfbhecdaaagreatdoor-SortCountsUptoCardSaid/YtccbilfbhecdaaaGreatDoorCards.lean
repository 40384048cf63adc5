/-
  DERIVED. GIVEN WITH THE SEED: THE CARDS: each row of YtccbilfbhecdaaaGreatDoorRows.lean that lists a variable, with what it lists TIED to the program's text (the seventh form; the later family's looks); each row that meets fmt, with fmt's text TOLD by the authors' own Lean function (tested against real Go, not proved from fmt's source: count such statements apart). THE CARD IS WHAT COUNTS. Prove the row's statement (the work); the ties are given (YtccbilfbhecdaaaGreatDoorTie.lean); close each card by the builder's one call (the guide's Derived/Test/ToyasCard.lean, 'card_holds'). Laid BY PROGRAM, IN A SANDBOX (cutbox-door.mjs). By AI agents, Wed Nov 11 2026. No macro, syntax, notation, axiom, sorry.
-/
import Derived.Test.YtccbilfbhecdaaaGreatDoorRows
import GoSem.ClaimSeven
namespace Go.Proofs.YtccbilfbhecdaaaGreatDoor
namespace Rows

/-- THE TIED CARD OF 'tribunallaw04.SortCounts'. -/
def sortCountsCard : Claim7 := { stood := { row := sortCountsRow, standIns := [], harness := (true, "0d4e26e4099435a20bfbdb2d234e377e86ebeb3048cc5a7874ce2414f6ada790"), looks := false }, kinds := [], alts := [], laidByText := true, laidKinds := [.data, .data, .data, .listed, .data], laidTests := true, laidLooks := .later }
def SortCountsCardSaid : Prop := Claim7.holds Tryz.pinned (.plain (OpenSpec.ofChange sortCountsSpec)) sortCountsCard

/-- THE SECOND FORM's CARD OF 'tribunallaw04.SortCounts'. -/
def sortCountsUptoCard : Claim7 := { stood := { row := sortCountsUptoRow, standIns := [], harness := (true, "0d4e26e4099435a20bfbdb2d234e377e86ebeb3048cc5a7874ce2414f6ada790"), looks := false }, kinds := [], alts := [], laidByText := true, laidKinds := [.data, .data, .data, .listed, .data], laidTests := true, laidLooks := .later }
def SortCountsUptoCardSaid : Prop := Claim7.holds Tryz.pinned (.plain (OpenSpec.upto sortCountsSpec)) sortCountsUptoCard
end Rows
end Go.Proofs.YtccbilfbhecdaaaGreatDoor
