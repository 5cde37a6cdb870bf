/- Closed facts of the row of CalcDepth: what is written in place. -/
import Derived.Test.YtibjogbalmbeeaaGreatDoorRows
import Derived.KernelRfl
import Derived.JoinedOf

namespace Go.Proofs.YtibjogbalmbeeaaGreatDoor
theorem calcDepth_inPlace : (Rows.calcDepthRow.inPlace == Tryz.prog.inPlace 5) = true := by kernel_rfl
end Go.Proofs.YtibjogbalmbeeaaGreatDoor
