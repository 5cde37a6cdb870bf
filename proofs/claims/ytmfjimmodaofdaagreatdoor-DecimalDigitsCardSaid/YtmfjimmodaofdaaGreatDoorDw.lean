/- Walks of the law helpers of decimal: format, sign, awake. -/
import Derived.Test.YtmfjimmodaofdaaGreatDoorEp
namespace Go.Proofs.YtmfjimmodaofdaaGreatDoor
open Go.RowKit
set_option maxRecDepth 100000 in
theorem awake_walk (w : World) (ht : Tab64 w) (h10 : Tab10 w) :
    Calls Tryz.prog 14 #[] w fun e w' => e = .returned (.bool true) ∧ Below w.heap.size w w' := by
  have HPa := Lib.hid (dparse_walk fmD (.inr rfl) ⟨#[48, 46, 49]⟩ w (by decide) ht)
  have HPr := Lib.hid (fun W (h : Below w.heap.size w W) => dprint_any fmD (.inr rfl) 4591870180066957722 (by decide) W (ht.below h) (h10.below h))
  rw [fmt_D] at HPa HPr
  clear ht h10
  go_enter Tryz.func14, Tryz.ntmps14
  go_wp2_with fail
  refine HPa.out.mono ?_
  rintro e w1 ⟨v, k, rfl, hok, hb1⟩
  obtain ⟨rfl, rfl⟩ := awake_parse hok
  have HB1 := Lib.hid hb1
  clear hb1 hok
  go_wp2_with fail
  refine (HPr.out w1 HB1.out).mono ?_
  rintro e w2 ⟨T, rfl, hT, hb2⟩
  obtain rfl := awake_print hT
  have HB2 := Lib.hid (below_chain HB1.out hb2)
  have hse : ((bs [48, 46, 49]).toList == [48, 46, 49]) = true := by rw [beq_iff_eq]; exact bs_list _
  clear hT hb2
  go_wp2
  go_ret
  exact ⟨rfl, HB2.out⟩
end Go.Proofs.YtmfjimmodaofdaaGreatDoor
