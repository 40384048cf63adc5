/-
  DERIVED. GIVEN WITH THE SEED: THE CARDS: each row of YtgkhbmoidenjaaaDoorRows.lean that lists a variable, with what it lists TIED to the program's text (the seventh form; the later family's looks); each row that meets fmt, with fmt's text TOLD by the authors' own Lean function (tested against real Go, not proved from fmt's source: count such statements apart). THE CARD IS WHAT COUNTS. Prove the row's statement (the work); the ties are given (YtgkhbmoidenjaaaDoorTie.lean); close each card by the builder's one call (the guide's Derived/Test/ToyasCard.lean, 'card_holds'). Laid BY PROGRAM, IN A SANDBOX (cutbox-door.mjs). By AI agents, Wed Nov 11 2026. No macro, syntax, notation, axiom, sorry.
-/
import Derived.Test.YtgkhbmoidenjaaaDoorRows
import GoSem.ClaimSeven
namespace Go.Proofs.YtgkhbmoidenjaaaDoor
namespace Rows

/-- THE TIED CARD OF 'tribunallaw15.EgraphWhys'. -/
def egraphWhysCard : Claim7 := { stood := { row := egraphWhysRow, standIns := [], harness := (true, "644b7dbc54f137a077b56a882d50234dae8251427e9f160873280e6af93c0c32"), looks := false }, kinds := [], alts := [], laidByText := true, laidKinds := [.data, .data, .data], laidTests := true, laidLooks := .later }
def EgraphWhysCardSaid : Prop := Claim7.holds Tryd.pinned (.plain (OpenSpec.ofChange egraphWhysSpec)) egraphWhysCard

/-- THE TIED CARD OF 'tribunallaw15.EgraphCloses'. -/
def egraphClosesCard : Claim7 := { stood := { row := egraphClosesRow, standIns := [], harness := (true, "644b7dbc54f137a077b56a882d50234dae8251427e9f160873280e6af93c0c32"), looks := false }, kinds := [], alts := [], laidByText := true, laidKinds := [.data, .data, .data], laidTests := true, laidLooks := .later }
def EgraphClosesCardSaid : Prop := Claim7.holds Tryd.pinned (.plain (OpenSpec.ofChange egraphClosesSpec)) egraphClosesCard

/-- THE TIED CARD OF 'tribunallaw15.EgraphOrder'. -/
def egraphOrderCard : Claim7 := { stood := { row := egraphOrderRow, standIns := [], harness := (true, "644b7dbc54f137a077b56a882d50234dae8251427e9f160873280e6af93c0c32"), looks := false }, kinds := [], alts := [], laidByText := true, laidKinds := [.data, .data, .data], laidTests := true, laidLooks := .later }
def EgraphOrderCardSaid : Prop := Claim7.holds Tryd.pinned (.plain (OpenSpec.ofChange egraphOrderSpec)) egraphOrderCard

/-- THE TIED CARD OF 'tribunallaw15.EgraphRuns'. -/
def egraphRunsCard : Claim7 := { stood := { row := egraphRunsRow, standIns := [], harness := (true, "644b7dbc54f137a077b56a882d50234dae8251427e9f160873280e6af93c0c32"), looks := false }, kinds := [], alts := [], laidByText := true, laidKinds := [.data, .data, .data], laidTests := true, laidLooks := .later }
def EgraphRunsCardSaid : Prop := Claim7.holds Tryd.pinned (.plain (OpenSpec.ofChange egraphRunsSpec)) egraphRunsCard

/-- THE TIED CARD OF 'tribunallaw15.EgraphOwn'. -/
def egraphOwnCard : Claim7 := { stood := { row := egraphOwnRow, standIns := [], harness := (true, "644b7dbc54f137a077b56a882d50234dae8251427e9f160873280e6af93c0c32"), looks := false }, kinds := [], alts := [], laidByText := true, laidKinds := [.data, .data, .data], laidTests := true, laidLooks := .later }
def EgraphOwnCardSaid : Prop := Claim7.holds Tryd.pinned (.plain (OpenSpec.ofChange egraphOwnSpec)) egraphOwnCard

/-- THE TIED CARD OF 'tribunallaw15.EgraphNobody'. -/
def egraphNobodyCard : Claim7 := { stood := { row := egraphNobodyRow, standIns := [], harness := (true, "644b7dbc54f137a077b56a882d50234dae8251427e9f160873280e6af93c0c32"), looks := false }, kinds := [], alts := [], laidByText := true, laidKinds := [.data, .data, .data], laidTests := true, laidLooks := .later }
def EgraphNobodyCardSaid : Prop := Claim7.holds Tryd.pinned (.plain (OpenSpec.ofChange egraphNobodySpec)) egraphNobodyCard

/-- THE SECOND FORM's CARD OF 'tribunallaw15.EgraphWhys'. -/
def egraphWhysUptoCard : Claim7 := { stood := { row := egraphWhysUptoRow, standIns := [], harness := (true, "644b7dbc54f137a077b56a882d50234dae8251427e9f160873280e6af93c0c32"), looks := false }, kinds := [], alts := [], laidByText := true, laidKinds := [.data, .data, .data], laidTests := true, laidLooks := .later }
def EgraphWhysUptoCardSaid : Prop := Claim7.holds Tryd.pinned (.plain (OpenSpec.upto egraphWhysSpec)) egraphWhysUptoCard

/-- THE SECOND FORM's CARD OF 'tribunallaw15.EgraphCloses'. -/
def egraphClosesUptoCard : Claim7 := { stood := { row := egraphClosesUptoRow, standIns := [], harness := (true, "644b7dbc54f137a077b56a882d50234dae8251427e9f160873280e6af93c0c32"), looks := false }, kinds := [], alts := [], laidByText := true, laidKinds := [.data, .data, .data], laidTests := true, laidLooks := .later }
def EgraphClosesUptoCardSaid : Prop := Claim7.holds Tryd.pinned (.plain (OpenSpec.upto egraphClosesSpec)) egraphClosesUptoCard

/-- THE SECOND FORM's CARD OF 'tribunallaw15.EgraphOrder'. -/
def egraphOrderUptoCard : Claim7 := { stood := { row := egraphOrderUptoRow, standIns := [], harness := (true, "644b7dbc54f137a077b56a882d50234dae8251427e9f160873280e6af93c0c32"), looks := false }, kinds := [], alts := [], laidByText := true, laidKinds := [.data, .data, .data], laidTests := true, laidLooks := .later }
def EgraphOrderUptoCardSaid : Prop := Claim7.holds Tryd.pinned (.plain (OpenSpec.upto egraphOrderSpec)) egraphOrderUptoCard

/-- THE SECOND FORM's CARD OF 'tribunallaw15.EgraphRuns'. -/
def egraphRunsUptoCard : Claim7 := { stood := { row := egraphRunsUptoRow, standIns := [], harness := (true, "644b7dbc54f137a077b56a882d50234dae8251427e9f160873280e6af93c0c32"), looks := false }, kinds := [], alts := [], laidByText := true, laidKinds := [.data, .data, .data], laidTests := true, laidLooks := .later }
def EgraphRunsUptoCardSaid : Prop := Claim7.holds Tryd.pinned (.plain (OpenSpec.upto egraphRunsSpec)) egraphRunsUptoCard

/-- THE SECOND FORM's CARD OF 'tribunallaw15.EgraphOwn'. -/
def egraphOwnUptoCard : Claim7 := { stood := { row := egraphOwnUptoRow, standIns := [], harness := (true, "644b7dbc54f137a077b56a882d50234dae8251427e9f160873280e6af93c0c32"), looks := false }, kinds := [], alts := [], laidByText := true, laidKinds := [.data, .data, .data], laidTests := true, laidLooks := .later }
def EgraphOwnUptoCardSaid : Prop := Claim7.holds Tryd.pinned (.plain (OpenSpec.upto egraphOwnSpec)) egraphOwnUptoCard

/-- THE SECOND FORM's CARD OF 'tribunallaw15.EgraphNobody'. -/
def egraphNobodyUptoCard : Claim7 := { stood := { row := egraphNobodyUptoRow, standIns := [], harness := (true, "644b7dbc54f137a077b56a882d50234dae8251427e9f160873280e6af93c0c32"), looks := false }, kinds := [], alts := [], laidByText := true, laidKinds := [.data, .data, .data], laidTests := true, laidLooks := .later }
def EgraphNobodyUptoCardSaid : Prop := Claim7.holds Tryd.pinned (.plain (OpenSpec.upto egraphNobodySpec)) egraphNobodyUptoCard
end Rows
end Go.Proofs.YtgkhbmoidenjaaaDoor
