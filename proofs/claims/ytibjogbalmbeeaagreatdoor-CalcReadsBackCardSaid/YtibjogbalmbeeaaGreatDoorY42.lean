/- closed facts of the row of CalcReadsBack. -/
import Derived.Test.YtibjogbalmbeeaaGreatDoorRows
import Derived.KernelRfl
import Derived.JoinedOf

namespace Go.Proofs.YtibjogbalmbeeaaGreatDoor
theorem fact_named : (Rows.calcReadsBackRow.named == Tryz.prog.varsNamed 4) = true := by kernel_rfl
end Go.Proofs.YtibjogbalmbeeaaGreatDoor
