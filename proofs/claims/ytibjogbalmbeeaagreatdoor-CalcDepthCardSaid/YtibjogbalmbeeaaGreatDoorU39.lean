/- Closed facts of the row of CalcDepth: what is not followed. -/
import Derived.Test.YtibjogbalmbeeaaGreatDoorRows
import Derived.KernelRfl
import Derived.JoinedOf

namespace Go.Proofs.YtibjogbalmbeeaaGreatDoor
theorem calcDepth_unf : (Rows.calcDepthRow.unfollowed == Tryz.prog.unfollowed 5) = true := by kernel_rfl
end Go.Proofs.YtibjogbalmbeeaaGreatDoor
