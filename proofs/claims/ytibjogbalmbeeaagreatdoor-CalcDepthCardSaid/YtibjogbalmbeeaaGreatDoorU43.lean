/- The tied card of a calc law, given its row (the fact 'goes' out of all bodies: the road's closure is too much for the kernel at this program's size). -/
import Derived.Test.YtibjogbalmbeeaaGreatDoorCards
import Derived.Test.YtibjogbalmbeeaaGreatDoorTie
import Derived.SevenTiedAt
import Derived.ChangeMaps5
import Derived.ChangeSame

namespace Go.Proofs.YtibjogbalmbeeaaGreatDoor
open Go.ChangeShapes Go.WideShapes

theorem no_go : Tryz.prog.funcs.any Func.goes = false := by kernel_rfl
theorem goes_false (P : Program) (f : FuncId) (h : P.funcs.any Func.goes = false) : P.goes f = false := by
  unfold Program.goes
  rw [h, Bool.and_false, Bool.or_false]
  rw [List.any_eq_false]
  intro g _
  cases hg : P.funcs[g]? with
  | none => simp
  | some fn =>
    have := (Array.any_eq_false.1 h)
    simp only [Option.any_some]
    obtain ⟨hi, e⟩ := Array.getElem?_eq_some_iff.1 hg
    rw [← e]
    have h2 := this g hi
    simpa using h2
theorem goesBy_no (P : Program) (hP : P.funcs.any Func.goes = false) (c : OpenClaim) (h : c.start = .entering) : false = c.goesBy P := by
  unfold OpenClaim.goesBy Program.goesAt Program.goesFrom
  rw [h, Bool.or_false]
  cases P.funcNamed c.func with
  | none => rfl
  | some f => exact (goes_false _ f hP).symm
end Go.Proofs.YtibjogbalmbeeaaGreatDoor
