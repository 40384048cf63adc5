/- The row, part 1. No condition. -/
import Derived.Test.YtgkogeglciogkaaGreatDoorNobodyG3
import Derived.Test.YtgkogeglciogkaaGreatDoorCards
import Derived.Test.YtgkogeglciogkaaGreatDoorChecked
import Derived.Test.YtgkogeglciogkaaGreatDoorTie
namespace Go.Proofs.YtgkogeglciogkaaGreatDoor
open Go Go.Abs
set_option maxRecDepth 100000

theorem own : ownKnob Tryz.prog.godebug = none := by kernel_rfl
theorem laidOut : laidOutB Tryz.prog = true := by kernel_rfl
theorem globals_ok : globalsB Tryz.prog = true := by kernel_rfl
theorem sane : Sane Tryz.prog (NE.plain 92) := sane_esc (fun _ _ _ => rfl) (by kernel_rfl) (by kernel_rfl) (fun x w => by kernel_rfl)

theorem laid_met (os : Os) (args : Array Value) : laidMet Tryz.prog Rows.termNobodyRow.laid ((laidW2 Tryz.prog Rows.termNobodyRow.laid os).forCall (fun _ _ => 0) ⟨#[], args, []⟩).memory :=
  laidMet_of_run3 8 (by kernel_rfl) (by kernel_rfl) (by kernel_rfl)

def tabs : List Tab := [(1, 209, ((zsOf Rows.laid_strings_asciiSpace).map fun z => Value.int .u8 z).toArray), (4, 227, ((zsOf Rows.laid_math_bits_deBruijn64tab).map fun z => Value.int .u8 z).toArray), (3, 226, ((zsOf Rows.laid_math_bits_deBruijn32tab).map fun z => Value.int .u8 z).toArray), (0, 190, ((zsOf Rows.laid_internal_strconv_uint64pow10).map fun z => Value.int .u64 z).toArray)]

theorem tabs_ok : tabsB Tryz.prog tabs = true := by kernel_rfl

theorem tabs_met (W : World) (hL : laidMet Tryz.prog Rows.termNobodyRow.laid W) (hsh : W.ShapedOpen Tryz.prog) : ∀ x ∈ tabs, ∃ fr, W.heap[x.1]? = some (.cells x.2.2 x.2.1 fr) := by
  intro x hx
  simp only [tabs, List.mem_cons, List.not_mem_nil, or_false] at hx
  rcases hx with rfl | rfl | rfl | rfl
  · exact tab_met (name := "strings.asciiSpace") (te := 5) (n := 256) (t := 209) hL (by kernel_rfl) (by kernel_rfl) (by kernel_rfl) (by kernel_rfl) (by kernel_rfl) (by kernel_rfl) (by kernel_rfl) (of_decide_eq_true (by kernel_rfl)) (by kernel_rfl) hsh
  · exact tab_met (name := "math/bits.deBruijn64tab") (te := 5) (n := 64) (t := 227) hL (by kernel_rfl) (by kernel_rfl) (by kernel_rfl) (by kernel_rfl) (by kernel_rfl) (by kernel_rfl) (by kernel_rfl) (of_decide_eq_true (by kernel_rfl)) (by kernel_rfl) hsh
  · exact tab_met (name := "math/bits.deBruijn32tab") (te := 5) (n := 32) (t := 226) hL (by kernel_rfl) (by kernel_rfl) (by kernel_rfl) (by kernel_rfl) (by kernel_rfl) (by kernel_rfl) (by kernel_rfl) (of_decide_eq_true (by kernel_rfl)) (by kernel_rfl) hsh
  · exact tab_met (name := "internal/strconv.uint64pow10") (te := 72) (n := 20) (t := 190) hL (by kernel_rfl) (by kernel_rfl) (by kernel_rfl) (by kernel_rfl) (by kernel_rfl) (by kernel_rfl) (by kernel_rfl) (of_decide_eq_true (by kernel_rfl)) (by kernel_rfl) hsh

end Go.Proofs.YtgkogeglciogkaaGreatDoor


namespace Go.Proofs.YtgkogeglciogkaaGreatDoor
open Go Go.Abs
set_option maxRecDepth 100000

noncomputable def lc : LC := LCn 100000 1000

set_option maxHeartbeats 0 in
theorem nobody_run : (law05_TermNobody_o lc 9 (startH Tryz.prog tabs)).map (·.1) = some true := by kernel_rfl

end Go.Proofs.YtgkogeglciogkaaGreatDoor


namespace Go.Proofs.YtgkogeglciogkaaGreatDoor
open Go Go.Abs
set_option maxRecDepth 100000

theorem nobody_call : ∃ H', CallS Tryz.prog (NE.plain 92) Tryz.prog.globals.size 3 (Tryz.f3.params.map (anyArg Tryz.prog)) (startH Tryz.prog tabs) (.bool true) H' := by
  have hrun := nobody_run
  generalize hq : law05_TermNobody_o lc 9 (startH Tryz.prog tabs) = q at hrun
  cases q with
  | none => cases hrun
  | some r =>
    obtain ⟨b, H'⟩ := r
    simp only [Option.map_some, Option.some.injEq] at hrun
    subst hrun
    refine ⟨H', ?_⟩
    have h := @law05_TermNobody_o_ok lc 9 (startH Tryz.prog tabs) (true, H') hq
    have e1 : Tryz.prog.globals.size = 9 := by kernel_rfl
    have e2 : Tryz.f3.params.map (anyArg Tryz.prog) = #[(Value.agg #[anyV, anyV, anyV, anyV, anyV, anyV, anyV, anyV, anyV, anyV, anyV, anyV]), anyV] := by kernel_rfl
    rw [e1, e2]
    exact h

theorem nobody_lifted (os : Os) (started : os.Started) (H : Type) (enc : TypeId × Value → H) :
    ReturnsInHanded {} Tryz.checked os 3 .any (fun w args => (Rows.termNobodySpec.pre enc Tryz.prog Tryz.f3 [] false w args ∧ laidMet Tryz.prog Rows.termNobodyRow.laid w) ∧ sizedMet enc Tryz.prog Tryz.f3 (OpenSpec.ofChange Rows.termNobodySpec) false w args)
      (Rows.termNobodySpec.post enc Tryz.prog Tryz.f3 false true false false) :=
  lifted_callS (C := Tryz.checked) (X := fun w _ => laidMet Tryz.prog Rows.termNobodyRow.laid w) own started (by kernel_rfl) Tryz.func3 (by kernel_rfl) sane globals_ok laidOut
    (by kernel_rfl) rfl (by kernel_rfl)
    (fun ds hds => by
      have h1 : ds.length = 2 := hds
      match ds, h1 with
      | [d, e], _ => exact ⟨rfl, rfl, rfl⟩)
    tabs_ok (fun _ _ _ hh h => h.of_heap hh) (fun W _ hL hsh => tabs_met W hL hsh) nobody_call
    (witness_ref (enc := enc) (C := Tryz.checked) (os := os) (X := fun w _ => laidMet Tryz.prog Rows.termNobodyRow.laid w) (laidW2 Tryz.prog Rows.termNobodyRow.laid os) #[.agg #[.int .i64 0, .string ⟨#[]⟩, .bool false, .slice none 0 0, .int .i64 0, .slice none 0 0, .int .i64 0, .int .i64 0, .string ⟨#[]⟩, .slice none 0 0, .slice none 0 0, .slice none 0 0], .int .i64 0] 8 rfl (by kernel_rfl) (by kernel_rfl) (by kernel_rfl) (by kernel_rfl) (by kernel_rfl) (laid_met os _))

theorem nobody_holds : Rows.TermNobodySaid :=
  OpenClaim.holds_of_wide 3 Tryz.f3 rfl rfl rfl rfl rfl rfl rfl ⟨rfl, rfl, rfl, rfl, rfl⟩ rfl rfl rfl rfl rfl (by kernel_rfl) Tryz.func3 (by kernel_rfl)
    (of_decide_eq_true (by kernel_rfl)) (by unfold Func.isWrapper; rw [if_neg (by decide +kernel)]; exact ⟨rfl, rfl⟩)
    (fun os started H enc _ => nobody_lifted os started H enc)

theorem termNobody_holds : Rows.TermNobodyCardSaid :=
  Claim7.holds_tied_plain_at .later [] [.data, .data, .data, .listed, .data] true (true, "7166bc28fefc51245b9d847fff10d15460ebcf70c6d29d00605788c8295ca33c") false
    nobody_holds (fun _ h => by cases h) (by kernel_rfl) (fun _ h => by cases h) termNobody_row_tie rfl ⟨rfl, rfl⟩ (by kernel_rfl) rfl
    (fun f fn hf hfn => by
      obtain rfl : f = 3 := Option.some.inj ((show Tryz.prog.funcNamed "tribunal/tribunallaw05.TermNobody" = some 3 by kernel_rfl).symm.trans hf) |>.symm
      obtain rfl : fn = Tryz.f3 := (Option.some.inj (Tryz.func3.symm.trans hfn)).symm
      exact ⟨by kernel_rfl, fun j t ht => by
        have hall : (Tryz.f3.params.toList.all fun u => !Tryz.prog.wantsStandIn u) = true := by kernel_rfl
        have hm : t ∈ Tryz.f3.params.toList := by simpa using Array.mem_of_getElem? ht
        exact (show Tryz.prog.wantsStandIn t = false by simpa using List.all_eq_true.1 hall t hm)⟩)
    (by kernel_rfl)
#print axioms termNobody_holds
end Go.Proofs.YtgkogeglciogkaaGreatDoor
