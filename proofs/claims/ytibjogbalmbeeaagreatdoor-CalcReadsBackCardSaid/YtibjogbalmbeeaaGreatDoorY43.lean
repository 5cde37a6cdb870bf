/- the row of CalcReadsBack, its closed facts put together -/
import Derived.Test.YtibjogbalmbeeaaGreatDoorY40
import Derived.Test.YtibjogbalmbeeaaGreatDoorY41
import Derived.Test.YtibjogbalmbeeaaGreatDoorY42

namespace Go.Proofs.YtibjogbalmbeeaaGreatDoor
theorem fact_rec : (Rows.calcReadsBackRow.recurses == Tryz.prog.recurses 4) = true := by
  unfold Program.recurses
  rw [show Tryz.prog.unfollowed 4 = true from (beq_iff_eq.1 fact_unf).symm, Bool.true_or]
  rfl
theorem joined_reads : joinedFacts Tryz.prog 4 Tryz.f4 Rows.calcReadsBackSpec Rows.calcReadsBackRow = true := by
  unfold joinedFacts
  rw [fact_inPlace, fact_unf, fact_rec, fact_named]
  kernel_rfl
end Go.Proofs.YtibjogbalmbeeaaGreatDoor
