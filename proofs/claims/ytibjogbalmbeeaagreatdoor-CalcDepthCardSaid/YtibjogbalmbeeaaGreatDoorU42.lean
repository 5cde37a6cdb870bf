/- The closed facts of the row of CalcDepth, put together. -/
import Derived.Test.YtibjogbalmbeeaaGreatDoorU39
import Derived.Test.YtibjogbalmbeeaaGreatDoorU40
import Derived.Test.YtibjogbalmbeeaaGreatDoorU41

namespace Go.Proofs.YtibjogbalmbeeaaGreatDoor
theorem calcDepth_rec : (Rows.calcDepthRow.recurses == Tryz.prog.recurses 5) = true := by
  unfold Program.recurses
  rw [show Tryz.prog.unfollowed 5 = true from (beq_iff_eq.1 calcDepth_unf).symm, Bool.true_or]
  rfl
theorem calcDepth_joined : joinedFacts Tryz.prog 5 Tryz.f5 Rows.calcDepthSpec Rows.calcDepthRow = true := by
  unfold joinedFacts
  rw [calcDepth_inPlace, calcDepth_unf, calcDepth_rec, calcDepth_named]
  kernel_rfl
end Go.Proofs.YtibjogbalmbeeaaGreatDoor
