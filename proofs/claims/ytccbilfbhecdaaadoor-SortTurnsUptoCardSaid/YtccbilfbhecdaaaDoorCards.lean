/-
  DERIVED. GIVEN WITH THE SEED: THE CARDS: each row of YtccbilfbhecdaaaDoorRows.lean that lists a variable, with what it lists TIED to the program's text (the seventh form; the later family's looks); each row that meets fmt, with fmt's text TOLD by the authors' own Lean function (tested against real Go, not proved from fmt's source: count such statements apart). THE CARD IS WHAT COUNTS. Prove the row's statement (the work); the ties are given (YtccbilfbhecdaaaDoorTie.lean); close each card by the builder's one call (the guide's Derived/Test/ToyasCard.lean, 'card_holds'). Laid BY PROGRAM, IN A SANDBOX (cutbox-door.mjs). By AI agents, Wed Nov 11 2026. No macro, syntax, notation, axiom, sorry.
-/
import Derived.Test.YtccbilfbhecdaaaDoorRows
import GoSem.ClaimSeven
namespace Go.Proofs.YtccbilfbhecdaaaDoor
namespace Rows

/-- THE TIED CARD OF 'tribunallaw04.SortNames'. -/
def sortNamesCard : Claim7 := { stood := { row := sortNamesRow, standIns := [], harness := (true, "cafb0519b103c489c8ef183f694ce5523444d5ca3e038396a042e515f5eb1cda"), looks := false }, kinds := [], alts := [], laidByText := true, laidKinds := [.data, .data, .data, .listed, .data], laidTests := true, laidLooks := .later }
def SortNamesCardSaid : Prop := Claim7.holds Tryd.pinned (.plain (OpenSpec.ofChange sortNamesSpec)) sortNamesCard

/-- THE TIED CARD OF 'tribunallaw04.SortChecks'. -/
def sortChecksCard : Claim7 := { stood := { row := sortChecksRow, standIns := [], harness := (true, "cafb0519b103c489c8ef183f694ce5523444d5ca3e038396a042e515f5eb1cda"), looks := false }, kinds := [], alts := [], laidByText := true, laidKinds := [.data, .data, .data, .listed, .data], laidTests := true, laidLooks := .later }
def SortChecksCardSaid : Prop := Claim7.holds Tryd.pinned (.plain (OpenSpec.ofChange sortChecksSpec)) sortChecksCard

/-- THE TIED CARD OF 'tribunallaw04.SortSigs'. -/
def sortSigsCard : Claim7 := { stood := { row := sortSigsRow, standIns := [], harness := (true, "cafb0519b103c489c8ef183f694ce5523444d5ca3e038396a042e515f5eb1cda"), looks := false }, kinds := [], alts := [], laidByText := true, laidKinds := [.data, .data, .data, .listed, .data], laidTests := true, laidLooks := .later }
def SortSigsCardSaid : Prop := Claim7.holds Tryd.pinned (.plain (OpenSpec.ofChange sortSigsSpec)) sortSigsCard

/-- THE TIED CARD OF 'tribunallaw04.SortPowers'. -/
def sortPowersCard : Claim7 := { stood := { row := sortPowersRow, standIns := [], harness := (true, "cafb0519b103c489c8ef183f694ce5523444d5ca3e038396a042e515f5eb1cda"), looks := false }, kinds := [], alts := [], laidByText := true, laidKinds := [.data, .data, .data, .listed, .data], laidTests := true, laidLooks := .later }
def SortPowersCardSaid : Prop := Claim7.holds Tryd.pinned (.plain (OpenSpec.ofChange sortPowersSpec)) sortPowersCard

/-- THE TIED CARD OF 'tribunallaw04.SortSums'. -/
def sortSumsCard : Claim7 := { stood := { row := sortSumsRow, standIns := [], harness := (true, "cafb0519b103c489c8ef183f694ce5523444d5ca3e038396a042e515f5eb1cda"), looks := false }, kinds := [], alts := [], laidByText := true, laidKinds := [.data, .data, .data, .listed, .data], laidTests := true, laidLooks := .later }
def SortSumsCardSaid : Prop := Claim7.holds Tryd.pinned (.plain (OpenSpec.ofChange sortSumsSpec)) sortSumsCard

/-- THE TIED CARD OF 'tribunallaw04.SortMore'. -/
def sortMoreCard : Claim7 := { stood := { row := sortMoreRow, standIns := [], harness := (true, "cafb0519b103c489c8ef183f694ce5523444d5ca3e038396a042e515f5eb1cda"), looks := false }, kinds := [], alts := [], laidByText := true, laidKinds := [.data, .data, .data, .listed, .data], laidTests := true, laidLooks := .later }
def SortMoreCardSaid : Prop := Claim7.holds Tryd.pinned (.plain (OpenSpec.ofChange sortMoreSpec)) sortMoreCard

/-- THE TIED CARD OF 'tribunallaw04.SortGrounds'. -/
def sortGroundsCard : Claim7 := { stood := { row := sortGroundsRow, standIns := [], harness := (true, "cafb0519b103c489c8ef183f694ce5523444d5ca3e038396a042e515f5eb1cda"), looks := false }, kinds := [], alts := [], laidByText := true, laidKinds := [.data, .data, .data, .listed, .data], laidTests := true, laidLooks := .later }
def SortGroundsCardSaid : Prop := Claim7.holds Tryd.pinned (.plain (OpenSpec.ofChange sortGroundsSpec)) sortGroundsCard

/-- THE TIED CARD OF 'tribunallaw04.SortTurns'. -/
def sortTurnsCard : Claim7 := { stood := { row := sortTurnsRow, standIns := [], harness := (true, "cafb0519b103c489c8ef183f694ce5523444d5ca3e038396a042e515f5eb1cda"), looks := false }, kinds := [], alts := [], laidByText := true, laidKinds := [.data, .data, .data, .listed, .data], laidTests := true, laidLooks := .later }
def SortTurnsCardSaid : Prop := Claim7.holds Tryd.pinned (.plain (OpenSpec.ofChange sortTurnsSpec)) sortTurnsCard

/-- THE TIED CARD OF 'tribunallaw04.SortTexts'. -/
def sortTextsCard : Claim7 := { stood := { row := sortTextsRow, standIns := [], harness := (true, "cafb0519b103c489c8ef183f694ce5523444d5ca3e038396a042e515f5eb1cda"), looks := false }, kinds := [], alts := [], laidByText := true, laidKinds := [.data, .data, .data, .listed, .data], laidTests := true, laidLooks := .later }
def SortTextsCardSaid : Prop := Claim7.holds Tryd.pinned (.plain (OpenSpec.ofChange sortTextsSpec)) sortTextsCard

/-- THE TIED CARD OF 'tribunallaw04.SortApart'. -/
def sortApartCard : Claim7 := { stood := { row := sortApartRow, standIns := [], harness := (true, "cafb0519b103c489c8ef183f694ce5523444d5ca3e038396a042e515f5eb1cda"), looks := false }, kinds := [], alts := [], laidByText := true, laidKinds := [.data, .data, .data, .listed, .data], laidTests := true, laidLooks := .later }
def SortApartCardSaid : Prop := Claim7.holds Tryd.pinned (.plain (OpenSpec.ofChange sortApartSpec)) sortApartCard

/-- THE SECOND FORM's CARD OF 'tribunallaw04.SortNames'. -/
def sortNamesUptoCard : Claim7 := { stood := { row := sortNamesUptoRow, standIns := [], harness := (true, "cafb0519b103c489c8ef183f694ce5523444d5ca3e038396a042e515f5eb1cda"), looks := false }, kinds := [], alts := [], laidByText := true, laidKinds := [.data, .data, .data, .listed, .data], laidTests := true, laidLooks := .later }
def SortNamesUptoCardSaid : Prop := Claim7.holds Tryd.pinned (.plain (OpenSpec.upto sortNamesSpec)) sortNamesUptoCard

/-- THE SECOND FORM's CARD OF 'tribunallaw04.SortChecks'. -/
def sortChecksUptoCard : Claim7 := { stood := { row := sortChecksUptoRow, standIns := [], harness := (true, "cafb0519b103c489c8ef183f694ce5523444d5ca3e038396a042e515f5eb1cda"), looks := false }, kinds := [], alts := [], laidByText := true, laidKinds := [.data, .data, .data, .listed, .data], laidTests := true, laidLooks := .later }
def SortChecksUptoCardSaid : Prop := Claim7.holds Tryd.pinned (.plain (OpenSpec.upto sortChecksSpec)) sortChecksUptoCard

/-- THE SECOND FORM's CARD OF 'tribunallaw04.SortSigs'. -/
def sortSigsUptoCard : Claim7 := { stood := { row := sortSigsUptoRow, standIns := [], harness := (true, "cafb0519b103c489c8ef183f694ce5523444d5ca3e038396a042e515f5eb1cda"), looks := false }, kinds := [], alts := [], laidByText := true, laidKinds := [.data, .data, .data, .listed, .data], laidTests := true, laidLooks := .later }
def SortSigsUptoCardSaid : Prop := Claim7.holds Tryd.pinned (.plain (OpenSpec.upto sortSigsSpec)) sortSigsUptoCard

/-- THE SECOND FORM's CARD OF 'tribunallaw04.SortPowers'. -/
def sortPowersUptoCard : Claim7 := { stood := { row := sortPowersUptoRow, standIns := [], harness := (true, "cafb0519b103c489c8ef183f694ce5523444d5ca3e038396a042e515f5eb1cda"), looks := false }, kinds := [], alts := [], laidByText := true, laidKinds := [.data, .data, .data, .listed, .data], laidTests := true, laidLooks := .later }
def SortPowersUptoCardSaid : Prop := Claim7.holds Tryd.pinned (.plain (OpenSpec.upto sortPowersSpec)) sortPowersUptoCard

/-- THE SECOND FORM's CARD OF 'tribunallaw04.SortSums'. -/
def sortSumsUptoCard : Claim7 := { stood := { row := sortSumsUptoRow, standIns := [], harness := (true, "cafb0519b103c489c8ef183f694ce5523444d5ca3e038396a042e515f5eb1cda"), looks := false }, kinds := [], alts := [], laidByText := true, laidKinds := [.data, .data, .data, .listed, .data], laidTests := true, laidLooks := .later }
def SortSumsUptoCardSaid : Prop := Claim7.holds Tryd.pinned (.plain (OpenSpec.upto sortSumsSpec)) sortSumsUptoCard

/-- THE SECOND FORM's CARD OF 'tribunallaw04.SortMore'. -/
def sortMoreUptoCard : Claim7 := { stood := { row := sortMoreUptoRow, standIns := [], harness := (true, "cafb0519b103c489c8ef183f694ce5523444d5ca3e038396a042e515f5eb1cda"), looks := false }, kinds := [], alts := [], laidByText := true, laidKinds := [.data, .data, .data, .listed, .data], laidTests := true, laidLooks := .later }
def SortMoreUptoCardSaid : Prop := Claim7.holds Tryd.pinned (.plain (OpenSpec.upto sortMoreSpec)) sortMoreUptoCard

/-- THE SECOND FORM's CARD OF 'tribunallaw04.SortGrounds'. -/
def sortGroundsUptoCard : Claim7 := { stood := { row := sortGroundsUptoRow, standIns := [], harness := (true, "cafb0519b103c489c8ef183f694ce5523444d5ca3e038396a042e515f5eb1cda"), looks := false }, kinds := [], alts := [], laidByText := true, laidKinds := [.data, .data, .data, .listed, .data], laidTests := true, laidLooks := .later }
def SortGroundsUptoCardSaid : Prop := Claim7.holds Tryd.pinned (.plain (OpenSpec.upto sortGroundsSpec)) sortGroundsUptoCard

/-- THE SECOND FORM's CARD OF 'tribunallaw04.SortTurns'. -/
def sortTurnsUptoCard : Claim7 := { stood := { row := sortTurnsUptoRow, standIns := [], harness := (true, "cafb0519b103c489c8ef183f694ce5523444d5ca3e038396a042e515f5eb1cda"), looks := false }, kinds := [], alts := [], laidByText := true, laidKinds := [.data, .data, .data, .listed, .data], laidTests := true, laidLooks := .later }
def SortTurnsUptoCardSaid : Prop := Claim7.holds Tryd.pinned (.plain (OpenSpec.upto sortTurnsSpec)) sortTurnsUptoCard

/-- THE SECOND FORM's CARD OF 'tribunallaw04.SortTexts'. -/
def sortTextsUptoCard : Claim7 := { stood := { row := sortTextsUptoRow, standIns := [], harness := (true, "cafb0519b103c489c8ef183f694ce5523444d5ca3e038396a042e515f5eb1cda"), looks := false }, kinds := [], alts := [], laidByText := true, laidKinds := [.data, .data, .data, .listed, .data], laidTests := true, laidLooks := .later }
def SortTextsUptoCardSaid : Prop := Claim7.holds Tryd.pinned (.plain (OpenSpec.upto sortTextsSpec)) sortTextsUptoCard

/-- THE SECOND FORM's CARD OF 'tribunallaw04.SortApart'. -/
def sortApartUptoCard : Claim7 := { stood := { row := sortApartUptoRow, standIns := [], harness := (true, "cafb0519b103c489c8ef183f694ce5523444d5ca3e038396a042e515f5eb1cda"), looks := false }, kinds := [], alts := [], laidByText := true, laidKinds := [.data, .data, .data, .listed, .data], laidTests := true, laidLooks := .later }
def SortApartUptoCardSaid : Prop := Claim7.holds Tryd.pinned (.plain (OpenSpec.upto sortApartSpec)) sortApartUptoCard
end Rows
end Go.Proofs.YtccbilfbhecdaaaDoor
