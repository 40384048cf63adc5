/- EgraphNobody is proved: at every input the call returns true and its argument reads as before. No condition beyond the row's own (three listed tables of Go's library as the text lays them). -/
import Derived.Test.YtgkhbmoidenjaaaDoorTie
import Derived.Test.YtgkhbmoidenjaaaDoorCards
import Derived.Test.YtgkhbmoidenjaaaDoorChecked
import Derived.Test.YtgkhbmoidenjaaaDoorE33
namespace Go.Proofs.YtgkhbmoidenjaaaDoor
open Go.Abs
set_option maxRecDepth 100000

theorem own : ownKnob Tryd.prog.godebug = none := by kernel_rfl
theorem laidOut : laidOutB Tryd.prog = true := by kernel_rfl
theorem globals_ok : globalsB Tryd.prog = true := by kernel_rfl
theorem sane : Sane Tryd.prog 1000 := sane_of (by kernel_rfl) (by kernel_rfl) (by kernel_rfl)

theorem laid_met (os : Os) (args : Array Value) : laidMet Tryd.prog Rows.egraphNobodyRow.laid ((laidW Tryd.prog Rows.egraphNobodyRow.laid os).forCall (fun _ _ => 0) ⟨#[], args, []⟩).memory :=
  laidMet_of_run3 8 (by kernel_rfl) (by kernel_rfl) (by kernel_rfl)

theorem nobody_run : (acall Tryd.prog 1000 400 3 8 (Tryd.f8.params.map (anyArg Tryd.prog)) ⟨3, .nil⟩).map (·.1) = some (.bool true) := by kernel_rfl

end Go.Proofs.YtgkhbmoidenjaaaDoor
