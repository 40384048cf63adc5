/- ClauseNobody is proved: at every input the call returns true and its arguments read as before. No condition beyond the row's own (five listed tables of Go's library as the text lays them). -/
import Derived.Test.YtiggbefjndkkmaaGreatDoorNobody1
namespace Go.Proofs.YtiggbefjndkkmaaGreatDoor
open Go.Abs
set_option maxRecDepth 100000

theorem nobody_lifted (os : Os) (started : os.Started) (H : Type) (enc : TypeId × Value → H) :
    ReturnsInHanded {} Tryz.checked os 3 .any (fun w args => (Rows.clauseNobodySpec.pre enc Tryz.prog Tryz.f3 [] false w args ∧ laidMet Tryz.prog Rows.clauseNobodyRow.laid w) ∧ sizedMet enc Tryz.prog Tryz.f3 (OpenSpec.ofChange Rows.clauseNobodySpec) false w args)
      (Rows.clauseNobodySpec.post enc Tryz.prog Tryz.f3 false true false false) :=
  lifted_true (C := Tryz.checked) (X := fun w _ => laidMet Tryz.prog Rows.clauseNobodyRow.laid w) (ne := 129) (n := 600) own started (by kernel_rfl) Tryz.func3 (by kernel_rfl) sane globals_ok laidOut
    (by kernel_rfl) rfl (by kernel_rfl)
    (fun ds hds => by
      have h1 : ds.length = 2 := hds
      match ds, h1 with
      | [d, e], _ => exact ⟨rfl, rfl, rfl⟩)
    nobody_run
    (witness_ref (enc := enc) (C := Tryz.checked) (os := os) (X := fun w _ => laidMet Tryz.prog Rows.clauseNobodyRow.laid w) (laidW2 Tryz.prog Rows.clauseNobodyRow.laid os) #[.int .i64 0, .slice none 0 0] 8 rfl (by kernel_rfl) (by kernel_rfl) (by kernel_rfl) (by kernel_rfl) (by kernel_rfl) (laid_met os _))

theorem nobody_holds : Rows.ClauseNobodySaid :=
  OpenClaim.holds_of_wide 3 Tryz.f3 rfl rfl rfl rfl rfl rfl rfl ⟨rfl, rfl, rfl, rfl, rfl⟩ rfl rfl rfl rfl rfl (by kernel_rfl) Tryz.func3 (by kernel_rfl)
    (of_decide_eq_true (by kernel_rfl)) (by unfold Func.isWrapper; rw [if_neg (by decide +kernel)]; exact ⟨rfl, rfl⟩)
    (fun os started H enc _ => nobody_lifted os started H enc)

theorem clauseNobody_holds : Rows.ClauseNobodyCardSaid :=
  Claim7.holds_tied_plain_at .later [] [.data, .data, .data, .listed, .data] true (true, "554bfc90653064175beee30ee61b1f3dc047abb269e6acd21dca88e3c8f73e04") false
    nobody_holds (fun _ h => by cases h) (by kernel_rfl) (fun _ h => by cases h) clauseNobody_row_tie rfl ⟨rfl, rfl⟩ (by kernel_rfl) rfl
    (fun f fn hf hfn => by
      obtain rfl : f = 3 := Option.some.inj ((show Tryz.prog.funcNamed "tribunal/tribunallaw13.ClauseNobody" = some 3 by kernel_rfl).symm.trans hf) |>.symm
      obtain rfl : fn = Tryz.f3 := (Option.some.inj (Tryz.func3.symm.trans hfn)).symm
      exact ⟨by kernel_rfl, fun j t ht => by
        have hall : (Tryz.f3.params.toList.all fun u => !Tryz.prog.wantsStandIn u) = true := by kernel_rfl
        have hm : t ∈ Tryz.f3.params.toList := by simpa using Array.mem_of_getElem? ht
        exact (show Tryz.prog.wantsStandIn t = false by simpa using List.all_eq_true.1 hall t hm)⟩)
    (by kernel_rfl)
#print axioms clauseNobody_holds
end Go.Proofs.YtiggbefjndkkmaaGreatDoor
