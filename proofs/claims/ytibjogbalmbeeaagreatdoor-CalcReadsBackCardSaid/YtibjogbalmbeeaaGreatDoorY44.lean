/- The tied card of a calc law, given its row (the fact 'goes' out of all bodies: the road's closure is too much for the kernel at this program's size). -/
import Derived.Test.YtibjogbalmbeeaaGreatDoorCards
import Derived.Test.YtibjogbalmbeeaaGreatDoorTie
import Derived.SevenTiedAt
import Derived.ChangeMaps5
import Derived.ChangeSame

namespace Go.Proofs.YtibjogbalmbeeaaGreatDoor
open Go.ChangeShapes Go.WideShapes

theorem no_go : Tryz.prog.funcs.any Func.goes = false := by kernel_rfl
theorem goes_false (P : Program) (f : FuncId) (h : P.funcs.any Func.goes = false) : P.goes f = false := by
  unfold Program.goes
  rw [h, Bool.and_false, Bool.or_false]
  rw [List.any_eq_false]
  intro g _
  cases hg : P.funcs[g]? with
  | none => simp
  | some fn =>
    have := (Array.any_eq_false.1 h)
    simp only [Option.any_some]
    obtain ⟨hi, e⟩ := Array.getElem?_eq_some_iff.1 hg
    rw [← e]
    have h2 := this g hi
    simpa using h2
theorem goesBy_no (P : Program) (hP : P.funcs.any Func.goes = false) (c : OpenClaim) (h : c.start = .entering) : false = c.goesBy P := by
  unfold OpenClaim.goesBy Program.goesAt Program.goesFrom
  rw [h, Bool.or_false]
  cases P.funcNamed c.func with
  | none => rfl
  | some f => exact (goes_false _ f hP).symm
theorem backs_card_of (h : Rows.CalcReadsBackSaid) : Rows.CalcReadsBackCardSaid :=
  Claim7.holds_tied_plain_at .later [] [.data, .data, .data, .data, .pinned] true Rows.calcReadsBackCard.stood.harness true
    h (fun _ h => by cases h) (by kernel_rfl) (fun _ h => by cases h) calcReadsBack_row_tie rfl ⟨rfl, rfl⟩ (by kernel_rfl) rfl
    (fun f fn hf hfn => by
      obtain rfl : f = 4 := Option.some.inj ((show Tryz.prog.funcNamed "gnomon/gnomonlaw27.CalcReadsBack" = some 4 by kernel_rfl).symm.trans hf) |>.symm
      obtain rfl : fn = Tryz.f4 := (Option.some.inj (Tryz.func4.symm.trans hfn)).symm
      exact ⟨by kernel_rfl, fun j t ht => by
        rw [Tryz.params4] at ht
        have hm : t ∈ [23] := by simpa using Array.mem_of_getElem? ht
        have hall : ([23].all fun u => !Tryz.prog.wantsStandIn u) = true := by kernel_rfl
        exact (show Tryz.prog.wantsStandIn t = false by simpa using List.all_eq_true.1 hall t hm)⟩)
    (goesBy_no _ no_go _ rfl)
#print axioms backs_card_of
end Go.Proofs.YtibjogbalmbeeaaGreatDoor
