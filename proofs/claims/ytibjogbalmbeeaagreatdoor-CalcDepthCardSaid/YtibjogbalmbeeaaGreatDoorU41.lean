/- Closed facts of the row of CalcDepth: the variables that are named. -/
import Derived.Test.YtibjogbalmbeeaaGreatDoorRows
import Derived.KernelRfl
import Derived.JoinedOf

namespace Go.Proofs.YtibjogbalmbeeaaGreatDoor
theorem calcDepth_named : (Rows.calcDepthRow.named == Tryz.prog.varsNamed 5) = true := by kernel_rfl
end Go.Proofs.YtibjogbalmbeeaaGreatDoor
