/- closed facts of the row of CalcReadsBack. -/
import Derived.Test.YtibjogbalmbeeaaGreatDoorRows
import Derived.KernelRfl
import Derived.JoinedOf

namespace Go.Proofs.YtibjogbalmbeeaaGreatDoor
theorem fact_unf : (Rows.calcReadsBackRow.unfollowed == Tryz.prog.unfollowed 4) = true := by kernel_rfl
end Go.Proofs.YtibjogbalmbeeaaGreatDoor
