/- Walks of binary: finite, ClassOf, Split (printed by gen_bin.py). -/
import Derived.Test.YtfacjlffkcbagaaGreatDoorBb
namespace Go.Proofs.YtfacjlffkcbagaaGreatDoor
open Go.RowKit

set_option maxRecDepth 100000 in
theorem classOf_S (b : Nat) (hb : b < 4294967296) (w : World) : Calls Tryz.prog 21 #[.int .i64 32, .int .u64 (b : Int)] w fun e w' => e = .returned (.tuple #[.int .i64 ((clsN 8388608 2139095040 (b % 2147483648) : Nat) : Int), .int .i64 0]) ∧ Below w.heap.size w w' := by
  obtain ⟨neg, hneg⟩ : ∃ neg, decide (2147483648 ≤ b) = neg := ⟨_, rfl⟩
  obtain ⟨z, hz⟩ : ∃ z, b % 2147483648 = z := ⟨_, rfl⟩
  have HN := Lib.hid hneg
  have HZ := Lib.hid hz
  rw [hz]
  clear hneg hz
  go_enter Tryz.func21, Tryz.ntmps21
  go_wp2_with fail
  refine (take_ok_S b hb _).mono ?_
  rintro e w1 ⟨rfl, hb1⟩
  rw [HN.out, HZ.out]
  clear hb HN HZ
  have hb2 := below_alloc' w1 (.cells #[.int .i64 32, .int .i64 24, .int .i64 (-149), .int .u64 2143289345] 70)
  go_wp2_with fail
  refine (class_S z _).mono ?_
  rintro e w2 ⟨rfl, hb3⟩
  go_wp2
  go_ret2
  exact ⟨rfl, below_chain (below_chain hb1 hb2) hb3⟩

set_option maxRecDepth 100000 in
theorem finite_S (b : Nat) (hb : b < 4294967296) (hfin : b % 2147483648 < 2139095040) (w : World) : Calls Tryz.prog 63 #[.int .i64 32, .int .u64 (b : Int)] w fun e w' => e = .returned (.tuple #[.agg #[.int .i64 32, .int .i64 24, .int .i64 (-149), .int .u64 2143289345], .bool (decide (2147483648 ≤ b)), .int .u64 ((b % 2147483648 : Nat) : Int), .int .i64 0]) ∧ Below w.heap.size w w' := by
  have hb0 := below_alloc' w (.cells #[.int .i64 0, .int .i64 0, .int .i64 0, .int .u64 0] 70)
  have h0 : Box4 (w.alloc (.cells #[.int .i64 0, .int .i64 0, .int .i64 0, .int .u64 0] 70)) w.heap.size (.int .i64 0) (.int .i64 0) (.int .i64 0) (.int .u64 0) := ⟨by simp, by simp, by simp, by simp, by simp, by simp, by simp, by simp, by simp⟩
  obtain ⟨neg, hneg⟩ : ∃ neg, decide (2147483648 ≤ b) = neg := ⟨_, rfl⟩
  obtain ⟨z, hz⟩ : ∃ z, b % 2147483648 = z := ⟨_, rfl⟩
  have HN := Lib.hid hneg
  have HZ := Lib.hid hz
  rw [hneg, hz]
  rw [hz] at hfin
  obtain ⟨nf, hnf⟩ : ∃ nf : Int, (2139095040 : Int) = nf := ⟨_, rfl⟩
  have HNF := Lib.hid hnf
  have hl : (z : Int) < nf := by omega
  clear hneg hz hfin hnf
  go_enter Tryz.func63, Tryz.ntmps63
  go_wp2_with fail
  refine (take_ok_S b hb _).mono ?_
  rintro e w1 ⟨rfl, hb1⟩
  have h1 := h0.below hb1
  rw [HN.out, HZ.out]
  clear hb h0 HN HZ
  have hb2 := below_alloc' w1 (.cells #[.int .i64 32, .int .i64 24, .int .i64 (-149), .int .u64 2143289345] 70)
  have h2 := h1.below hb2
  have HW2 := Lib.hid (below_chain (below_chain hb0 hb1) hb2)
  have H2 := Lib.hid h2
  clear hb0 hb1 hb2 h1 h2
  go_wp2_with fail
  refine (sinf_S _).mono ?_
  rintro e w2 ⟨rfl, hb3⟩
  rw [HNF.out]
  obtain ⟨a0, a1, a2, a3, f0, f1, f2, f3, hs⟩ := H2.out.below hb3
  have y0 : w2.cell? ⟨w1.heap.size, 0, none⟩ = some (.int .i64 32) := cell_kept hb3 (by simp)
  have y1 : w2.cell? ⟨w1.heap.size, 1, none⟩ = some (.int .i64 24) := cell_kept hb3 (by simp)
  have y2 : w2.cell? ⟨w1.heap.size, 2, none⟩ = some (.int .i64 (-149)) := cell_kept hb3 (by simp)
  have y3 : w2.cell? ⟨w1.heap.size, 3, none⟩ = some (.int .u64 2143289345) := cell_kept hb3 (by simp)
  have HW := Lib.hid (below_chain HW2.out hb3)
  clear hb3
  go_wp2
  have r0 : ((((w2.setCell ⟨w.heap.size, 0, none⟩ (.int .i64 32)).setCell ⟨w.heap.size, 1, none⟩ (.int .i64 24)).setCell ⟨w.heap.size, 2, none⟩ (.int .i64 (-149))).setCell ⟨w.heap.size, 3, none⟩ (.int .u64 2143289345)).cell? ⟨w.heap.size, 0, none⟩ = some (.int .i64 32) := by
    rw [cell_other (by simp), cell_other (by simp), cell_other (by simp)]; exact World.cell?_setCell_same' _ _ _ (by rw [a0]; rfl)
  have r1 : ((((w2.setCell ⟨w.heap.size, 0, none⟩ (.int .i64 32)).setCell ⟨w.heap.size, 1, none⟩ (.int .i64 24)).setCell ⟨w.heap.size, 2, none⟩ (.int .i64 (-149))).setCell ⟨w.heap.size, 3, none⟩ (.int .u64 2143289345)).cell? ⟨w.heap.size, 1, none⟩ = some (.int .i64 24) := by
    rw [cell_other (by simp), cell_other (by simp)]; exact World.cell?_setCell_same' _ _ _ (by rw [cell_other (by simp), a1]; rfl)
  have r2 : ((((w2.setCell ⟨w.heap.size, 0, none⟩ (.int .i64 32)).setCell ⟨w.heap.size, 1, none⟩ (.int .i64 24)).setCell ⟨w.heap.size, 2, none⟩ (.int .i64 (-149))).setCell ⟨w.heap.size, 3, none⟩ (.int .u64 2143289345)).cell? ⟨w.heap.size, 2, none⟩ = some (.int .i64 (-149)) := by
    rw [cell_other (by simp)]; exact World.cell?_setCell_same' _ _ _ (by rw [cell_other (by simp), cell_other (by simp), a2]; rfl)
  have r3 : ((((w2.setCell ⟨w.heap.size, 0, none⟩ (.int .i64 32)).setCell ⟨w.heap.size, 1, none⟩ (.int .i64 24)).setCell ⟨w.heap.size, 2, none⟩ (.int .i64 (-149))).setCell ⟨w.heap.size, 3, none⟩ (.int .u64 2143289345)).cell? ⟨w.heap.size, 3, none⟩ = some (.int .u64 2143289345) := by
    exact World.cell?_setCell_same' _ _ _ (by rw [cell_other (by simp), cell_other (by simp), cell_other (by simp), a3]; rfl)
  refine bodyPost_ret (v := .tuple #[.agg #[.int .i64 32, .int .i64 24, .int .i64 (-149), .int .u64 2143289345], .bool neg, .int .u64 (z : Int), .int .i64 0]) (by simp [results, Tryz.results63, go_sem, r0, r1, r2, r3]) rfl ⟨rfl, ?_⟩
  exact (((HW.out.setCell (by simp) _).setCell (by simp) _).setCell (by simp) _).setCell (by simp) _

set_option maxRecDepth 100000 in
theorem classOf_D (b : Nat) (hb : b < 18446744073709551616) (w : World) : Calls Tryz.prog 21 #[.int .i64 64, .int .u64 (b : Int)] w fun e w' => e = .returned (.tuple #[.int .i64 ((clsN 4503599627370496 9218868437227405312 (b % 9223372036854775808) : Nat) : Int), .int .i64 0]) ∧ Below w.heap.size w w' := by
  obtain ⟨neg, hneg⟩ : ∃ neg, decide (9223372036854775808 ≤ b) = neg := ⟨_, rfl⟩
  obtain ⟨z, hz⟩ : ∃ z, b % 9223372036854775808 = z := ⟨_, rfl⟩
  have HN := Lib.hid hneg
  have HZ := Lib.hid hz
  rw [hz]
  clear hneg hz
  go_enter Tryz.func21, Tryz.ntmps21
  go_wp2_with fail
  refine (take_ok_D b hb _).mono ?_
  rintro e w1 ⟨rfl, hb1⟩
  rw [HN.out, HZ.out]
  clear hb HN HZ
  have hb2 := below_alloc' w1 (.cells #[.int .i64 64, .int .i64 53, .int .i64 (-1074), .int .u64 9221120237041090561] 70)
  go_wp2_with fail
  refine (class_D z _).mono ?_
  rintro e w2 ⟨rfl, hb3⟩
  go_wp2
  go_ret2
  exact ⟨rfl, below_chain (below_chain hb1 hb2) hb3⟩

set_option maxRecDepth 100000 in
theorem finite_D (b : Nat) (hb : b < 18446744073709551616) (hfin : b % 9223372036854775808 < 9218868437227405312) (w : World) : Calls Tryz.prog 63 #[.int .i64 64, .int .u64 (b : Int)] w fun e w' => e = .returned (.tuple #[.agg #[.int .i64 64, .int .i64 53, .int .i64 (-1074), .int .u64 9221120237041090561], .bool (decide (9223372036854775808 ≤ b)), .int .u64 ((b % 9223372036854775808 : Nat) : Int), .int .i64 0]) ∧ Below w.heap.size w w' := by
  have hb0 := below_alloc' w (.cells #[.int .i64 0, .int .i64 0, .int .i64 0, .int .u64 0] 70)
  have h0 : Box4 (w.alloc (.cells #[.int .i64 0, .int .i64 0, .int .i64 0, .int .u64 0] 70)) w.heap.size (.int .i64 0) (.int .i64 0) (.int .i64 0) (.int .u64 0) := ⟨by simp, by simp, by simp, by simp, by simp, by simp, by simp, by simp, by simp⟩
  obtain ⟨neg, hneg⟩ : ∃ neg, decide (9223372036854775808 ≤ b) = neg := ⟨_, rfl⟩
  obtain ⟨z, hz⟩ : ∃ z, b % 9223372036854775808 = z := ⟨_, rfl⟩
  have HN := Lib.hid hneg
  have HZ := Lib.hid hz
  rw [hneg, hz]
  rw [hz] at hfin
  obtain ⟨nf, hnf⟩ : ∃ nf : Int, (9218868437227405312 : Int) = nf := ⟨_, rfl⟩
  have HNF := Lib.hid hnf
  have hl : (z : Int) < nf := by omega
  clear hneg hz hfin hnf
  go_enter Tryz.func63, Tryz.ntmps63
  go_wp2_with fail
  refine (take_ok_D b hb _).mono ?_
  rintro e w1 ⟨rfl, hb1⟩
  have h1 := h0.below hb1
  rw [HN.out, HZ.out]
  clear hb h0 HN HZ
  have hb2 := below_alloc' w1 (.cells #[.int .i64 64, .int .i64 53, .int .i64 (-1074), .int .u64 9221120237041090561] 70)
  have h2 := h1.below hb2
  have HW2 := Lib.hid (below_chain (below_chain hb0 hb1) hb2)
  have H2 := Lib.hid h2
  clear hb0 hb1 hb2 h1 h2
  go_wp2_with fail
  refine (sinf_D _).mono ?_
  rintro e w2 ⟨rfl, hb3⟩
  rw [HNF.out]
  obtain ⟨a0, a1, a2, a3, f0, f1, f2, f3, hs⟩ := H2.out.below hb3
  have y0 : w2.cell? ⟨w1.heap.size, 0, none⟩ = some (.int .i64 64) := cell_kept hb3 (by simp)
  have y1 : w2.cell? ⟨w1.heap.size, 1, none⟩ = some (.int .i64 53) := cell_kept hb3 (by simp)
  have y2 : w2.cell? ⟨w1.heap.size, 2, none⟩ = some (.int .i64 (-1074)) := cell_kept hb3 (by simp)
  have y3 : w2.cell? ⟨w1.heap.size, 3, none⟩ = some (.int .u64 9221120237041090561) := cell_kept hb3 (by simp)
  have HW := Lib.hid (below_chain HW2.out hb3)
  clear hb3
  go_wp2
  have r0 : ((((w2.setCell ⟨w.heap.size, 0, none⟩ (.int .i64 64)).setCell ⟨w.heap.size, 1, none⟩ (.int .i64 53)).setCell ⟨w.heap.size, 2, none⟩ (.int .i64 (-1074))).setCell ⟨w.heap.size, 3, none⟩ (.int .u64 9221120237041090561)).cell? ⟨w.heap.size, 0, none⟩ = some (.int .i64 64) := by
    rw [cell_other (by simp), cell_other (by simp), cell_other (by simp)]; exact World.cell?_setCell_same' _ _ _ (by rw [a0]; rfl)
  have r1 : ((((w2.setCell ⟨w.heap.size, 0, none⟩ (.int .i64 64)).setCell ⟨w.heap.size, 1, none⟩ (.int .i64 53)).setCell ⟨w.heap.size, 2, none⟩ (.int .i64 (-1074))).setCell ⟨w.heap.size, 3, none⟩ (.int .u64 9221120237041090561)).cell? ⟨w.heap.size, 1, none⟩ = some (.int .i64 53) := by
    rw [cell_other (by simp), cell_other (by simp)]; exact World.cell?_setCell_same' _ _ _ (by rw [cell_other (by simp), a1]; rfl)
  have r2 : ((((w2.setCell ⟨w.heap.size, 0, none⟩ (.int .i64 64)).setCell ⟨w.heap.size, 1, none⟩ (.int .i64 53)).setCell ⟨w.heap.size, 2, none⟩ (.int .i64 (-1074))).setCell ⟨w.heap.size, 3, none⟩ (.int .u64 9221120237041090561)).cell? ⟨w.heap.size, 2, none⟩ = some (.int .i64 (-1074)) := by
    rw [cell_other (by simp)]; exact World.cell?_setCell_same' _ _ _ (by rw [cell_other (by simp), cell_other (by simp), a2]; rfl)
  have r3 : ((((w2.setCell ⟨w.heap.size, 0, none⟩ (.int .i64 64)).setCell ⟨w.heap.size, 1, none⟩ (.int .i64 53)).setCell ⟨w.heap.size, 2, none⟩ (.int .i64 (-1074))).setCell ⟨w.heap.size, 3, none⟩ (.int .u64 9221120237041090561)).cell? ⟨w.heap.size, 3, none⟩ = some (.int .u64 9221120237041090561) := by
    exact World.cell?_setCell_same' _ _ _ (by rw [cell_other (by simp), cell_other (by simp), cell_other (by simp), a3]; rfl)
  refine bodyPost_ret (v := .tuple #[.agg #[.int .i64 64, .int .i64 53, .int .i64 (-1074), .int .u64 9221120237041090561], .bool neg, .int .u64 (z : Int), .int .i64 0]) (by simp [results, Tryz.results63, go_sem, r0, r1, r2, r3]) rfl ⟨rfl, ?_⟩
  exact (((HW.out.setCell (by simp) _).setCell (by simp) _).setCell (by simp) _).setCell (by simp) _

end Go.Proofs.YtfacjlffkcbagaaGreatDoor
