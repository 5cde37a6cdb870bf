/- Walks of binary: shapeOf, Quiet. -/
import Derived.Test.YtibjogbalmbeeaaGreatDoorU06

namespace Go.Proofs.YtibjogbalmbeeaaGreatDoor
open Go.RowKit
def Fm.quiet (f : Fm) : Nat := if f.S = 31 then 2143289345 else 9221120237041090561
theorem sgn_false (f : Fm) (x : Nat) : sgn f false x = x := by simp [sgn]
set_option maxRecDepth 100000 in
theorem shapeOf_S (w : World) : Calls Tryz.prog 63 #[.int .i64 32] w fun e w' => e = .returned (.agg #[.int .i64 32, .int .i64 24, .int .i64 (-149), .int .u64 2143289345]) ∧ Below w.heap.size w w' := by
  go_enter Tryz.func63, Tryz.ntmps63
  go_wp2
  refine bodyPost_ret (v := .agg #[.int .i64 32, .int .i64 24, .int .i64 (-149), .int .u64 2143289345]) (by simp [results, Tryz.results63, go_sem]) rfl ⟨rfl, ?_⟩
  exact below_alloc' w _

set_option maxRecDepth 100000 in
theorem quiet_S (w : World) : Calls Tryz.prog 190 #[.int .i64 32] w fun e w' => e = .returned (.tuple #[.int .u64 2143289345, .int .i64 0]) ∧ Below w.heap.size w w' := by
  go_enter Tryz.func190, Tryz.ntmps190
  go_wp2_with fail
  refine (shapeOf_S w).mono ?_
  rintro e w1 ⟨rfl, hb1⟩
  go_wp2
  go_ret2
  exact ⟨rfl, below_chain hb1 (below_alloc' w1 _)⟩

set_option maxRecDepth 100000 in
theorem shapeOf_D (w : World) : Calls Tryz.prog 63 #[.int .i64 64] w fun e w' => e = .returned (.agg #[.int .i64 64, .int .i64 53, .int .i64 (-1074), .int .u64 9221120237041090561]) ∧ Below w.heap.size w w' := by
  go_enter Tryz.func63, Tryz.ntmps63
  go_wp2
  refine bodyPost_ret (v := .agg #[.int .i64 64, .int .i64 53, .int .i64 (-1074), .int .u64 9221120237041090561]) (by simp [results, Tryz.results63, go_sem]) rfl ⟨rfl, ?_⟩
  exact below_alloc' w _

set_option maxRecDepth 100000 in
theorem quiet_D (w : World) : Calls Tryz.prog 190 #[.int .i64 64] w fun e w' => e = .returned (.tuple #[.int .u64 9221120237041090561, .int .i64 0]) ∧ Below w.heap.size w w' := by
  go_enter Tryz.func190, Tryz.ntmps190
  go_wp2_with fail
  refine (shapeOf_D w).mono ?_
  rintro e w1 ⟨rfl, hb1⟩
  go_wp2
  go_ret2
  exact ⟨rfl, below_chain hb1 (below_alloc' w1 _)⟩
end Go.Proofs.YtibjogbalmbeeaaGreatDoor
