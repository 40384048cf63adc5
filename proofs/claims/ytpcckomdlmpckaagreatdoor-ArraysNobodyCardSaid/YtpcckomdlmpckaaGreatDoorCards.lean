/-
  DERIVED. GIVEN WITH THE SEED: THE CARDS: each row of YtpcckomdlmpckaaGreatDoorRows.lean that lists a variable, with what it lists TIED to the program's text (the seventh form; the later family's looks); each row that meets fmt, with fmt's text TOLD by the authors' own Lean function (tested against real Go, not proved from fmt's source: count such statements apart). THE CARD IS WHAT COUNTS. Prove the row's statement (the work); the ties are given (YtpcckomdlmpckaaGreatDoorTie.lean); close each card by the builder's one call (the guide's Derived/Test/ToyasCard.lean, 'card_holds'). Laid BY PROGRAM, IN A SANDBOX (cutbox-door.mjs). By AI agents, Wed Nov 11 2026. No macro, syntax, notation, axiom, sorry.
-/
import Derived.Test.YtpcckomdlmpckaaGreatDoorRows
import GoSem.ClaimSeven
namespace Go.Proofs.YtpcckomdlmpckaaGreatDoor
namespace Rows

/-- THE TIED CARD OF 'tribunallaw20.ArraysNobody'. -/
def arraysNobodyCard : Claim7 := { stood := { row := arraysNobodyRow, standIns := [], harness := (true, "4f7b3d36bcf7509a3ae0c7352709af1d6ba024333c78763f23c4bb3045d97eb2"), looks := false }, kinds := [], alts := [], laidByText := true, laidKinds := [.data, .data, .data, .data, .listed, .data, .pinned], laidTests := true, laidLooks := .later }
def ArraysNobodyCardSaid : Prop := Claim7.holds Tryz.pinned (.plain (OpenSpec.ofChange arraysNobodySpec)) arraysNobodyCard

/-- THE SECOND FORM's CARD OF 'tribunallaw20.ArraysNobody'. -/
def arraysNobodyUptoCard : Claim7 := { stood := { row := arraysNobodyUptoRow, standIns := [], harness := (true, "4f7b3d36bcf7509a3ae0c7352709af1d6ba024333c78763f23c4bb3045d97eb2"), looks := false }, kinds := [], alts := [], laidByText := true, laidKinds := [.data, .data, .data, .data, .listed, .data, .pinned], laidTests := true, laidLooks := .later }
def ArraysNobodyUptoCardSaid : Prop := Claim7.holds Tryz.pinned (.plain (OpenSpec.upto arraysNobodySpec)) arraysNobodyUptoCard
end Rows
end Go.Proofs.YtpcckomdlmpckaaGreatDoor
