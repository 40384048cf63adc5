/- ClauseNobody is proved: at every input the call returns true and its arguments read as before. No condition beyond the row's own (five listed tables of Go's library as the text lays them). -/
import Derived.Test.YtiggbefjndkkmaaGreatDoorTie
import Derived.Test.YtiggbefjndkkmaaGreatDoorCards
import Derived.Test.YtiggbefjndkkmaaGreatDoorChecked
import Derived.Test.YtiggbefjndkkmaaGreatDoorE35
namespace Go.Proofs.YtiggbefjndkkmaaGreatDoor
open Go.Abs
set_option maxRecDepth 100000

theorem own : ownKnob Tryz.prog.godebug = none := by kernel_rfl
theorem laidOut : laidOutB Tryz.prog = true := by kernel_rfl
theorem globals_ok : globalsB Tryz.prog = true := by kernel_rfl
theorem sane : Sane Tryz.prog 129 := sane_esc (by kernel_rfl) (by kernel_rfl) (fun x w => by kernel_rfl)

theorem laid_met (os : Os) (args : Array Value) : laidMet Tryz.prog Rows.clauseNobodyRow.laid ((laidW2 Tryz.prog Rows.clauseNobodyRow.laid os).forCall (fun _ _ => 0) ⟨#[], args, []⟩).memory :=
  laidMet_of_run3 8 (by kernel_rfl) (by kernel_rfl) (by kernel_rfl)

end Go.Proofs.YtiggbefjndkkmaaGreatDoor
