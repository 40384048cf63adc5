/- ClauseNobody is proved: at every input the call returns true and its arguments read as before. No condition beyond the row's own (five listed tables of Go's library as the text lays them). -/
import Derived.Test.YtiggbefjndkkmaaGreatDoorNobody
namespace Go.Proofs.YtiggbefjndkkmaaGreatDoor
open Go.Abs
set_option maxRecDepth 100000

theorem nobody_run : (acall Tryz.prog 129 600 7 3 (Tryz.f3.params.map (anyArg Tryz.prog)) ⟨7, .nil⟩).map (·.1) = some (.bool true) := by kernel_rfl

end Go.Proofs.YtiggbefjndkkmaaGreatDoor
