/- EgraphNobody is proved: at every input the call returns true and its argument reads as before. No condition beyond the row's own (three listed tables of Go's library as the text lays them). -/
import Derived.Test.YtgkhbmoidenjaaaDoorNobody
namespace Go.Proofs.YtgkhbmoidenjaaaDoor
open Go.Abs
set_option maxRecDepth 100000

theorem nobody_lifted (os : Os) (started : os.Started) (H : Type) (enc : TypeId × Value → H) :
    ReturnsInHanded {} Tryd.checked os 8 .any (fun w args => (Rows.egraphNobodySpec.pre enc Tryd.prog Tryd.f8 [] false w args ∧ laidMet Tryd.prog Rows.egraphNobodyRow.laid w) ∧ sizedMet enc Tryd.prog Tryd.f8 (OpenSpec.ofChange Rows.egraphNobodySpec) false w args)
      (Rows.egraphNobodySpec.post enc Tryd.prog Tryd.f8 false true false false) :=
  lifted_true (C := Tryd.checked) (X := fun w _ => laidMet Tryd.prog Rows.egraphNobodyRow.laid w) (ne := 1000) (n := 400) own started (by kernel_rfl) Tryd.func8 (by kernel_rfl) sane globals_ok laidOut
    (by kernel_rfl) rfl (by kernel_rfl)
    (fun ds hds => by
      have h1 : ds.length = 1 := hds
      obtain ⟨d, rfl⟩ := List.length_eq_one_iff.1 h1
      exact ⟨rfl, rfl, rfl⟩)
    nobody_run
    (ChangeSpec.witness_at (enc := enc) (C := Tryd.checked) (os := os) (X := fun w _ => laidMet Tryd.prog Rows.egraphNobodyRow.laid w) false (laidW Tryd.prog Rows.egraphNobodyRow.laid os) #[.agg #[.int .i64 0, .int .i64 0, .slice none 0 0, .int .i64 0, .int .i64 0, .int .i64 0]] 8 rfl (by kernel_rfl) (by kernel_rfl) (by kernel_rfl) (by kernel_rfl) (by kernel_rfl) (laid_met os _))

theorem nobody_holds : Rows.EgraphNobodySaid :=
  OpenClaim.holds_of_wide 8 Tryd.f8 rfl rfl rfl rfl rfl rfl rfl ⟨rfl, rfl, rfl, rfl, rfl⟩ rfl rfl rfl rfl rfl (by kernel_rfl) Tryd.func8 (by kernel_rfl)
    (of_decide_eq_true (by kernel_rfl)) (by unfold Func.isWrapper; rw [if_neg (by decide +kernel)]; exact ⟨rfl, rfl⟩)
    (fun os started H enc _ => nobody_lifted os started H enc)

theorem egraphNobody_holds : Rows.EgraphNobodyCardSaid :=
  Claim7.holds_tied_plain_at .later [] [.data, .data, .data] true (true, "644b7dbc54f137a077b56a882d50234dae8251427e9f160873280e6af93c0c32") false
    nobody_holds (fun _ h => by cases h) (by kernel_rfl) (fun _ h => by cases h) egraphNobody_row_tie rfl ⟨rfl, rfl⟩ (by kernel_rfl) rfl
    (fun f fn hf hfn => by
      obtain rfl : f = 8 := Option.some.inj ((show Tryd.prog.funcNamed "tribunal/tribunallaw15.EgraphNobody" = some 8 by kernel_rfl).symm.trans hf) |>.symm
      obtain rfl : fn = Tryd.f8 := (Option.some.inj (Tryd.func8.symm.trans hfn)).symm
      exact ⟨by kernel_rfl, fun j t ht => by
        have hall : (Tryd.f8.params.toList.all fun u => !Tryd.prog.wantsStandIn u) = true := by kernel_rfl
        have hm : t ∈ Tryd.f8.params.toList := by simpa using Array.mem_of_getElem? ht
        exact (show Tryd.prog.wantsStandIn t = false by simpa using List.all_eq_true.1 hall t hm)⟩)
    (by kernel_rfl)
#print axioms egraphNobody_holds
end Go.Proofs.YtgkhbmoidenjaaaDoor
