/- closed facts of the row of CalcReadsBack. -/
import Derived.Test.YtibjogbalmbeeaaGreatDoorRows
import Derived.KernelRfl
import Derived.JoinedOf

namespace Go.Proofs.YtibjogbalmbeeaaGreatDoor
theorem fact_inPlace : (Rows.calcReadsBackRow.inPlace == Tryz.prog.inPlace 4) = true := by kernel_rfl
end Go.Proofs.YtibjogbalmbeeaaGreatDoor
