/- Walk of the laws' helper formats. -/
import Derived.Test.YtooehlneoboenaaDoorLa
namespace Go.Proofs.YtooehlneoboenaaDoor
open Go.RowKit Go.Sort

set_option maxRecDepth 100000 in
theorem formats_yes (f : Int) (hf : f = 32 ∨ f = 64) (w : World) : Calls Tryd.prog 11 #[.int .i64 f] w fun e w' => e = .returned (.bool true) ∧ w' = w := by
  rcases hf with rfl | rfl
  all_goals
    go_enter Tryd.func11, Tryd.ntmps11
    go_wp2
    go_ret
    exact ⟨rfl, rfl⟩

set_option maxRecDepth 100000 in
theorem formats_no (f : Int) (h1 : f ≠ 32) (h2 : f ≠ 64) (w : World) : Calls Tryd.prog 11 #[.int .i64 f] w fun e w' => e = .returned (.bool false) ∧ w' = w := by
  have e1 : (f == 32) = false := by rw [beq_eq_false_iff_ne]; exact h1
  have e2 : (f == 64) = false := by rw [beq_eq_false_iff_ne]; exact h2
  go_enter Tryd.func11, Tryd.ntmps11
  go_wp2
  go_ret
  exact ⟨rfl, rfl⟩
end Go.Proofs.YtooehlneoboenaaDoor
