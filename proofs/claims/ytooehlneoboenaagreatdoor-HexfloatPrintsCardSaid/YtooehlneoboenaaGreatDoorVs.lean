/- Walks of gnomonref10.DocPrint at nought, infinity, NaN, and at what is no format or no pattern (printed by gen_dprint2.py). -/
import Derived.Test.YtooehlneoboenaaGreatDoorVr
namespace Go.Proofs.YtooehlneoboenaaGreatDoor
open Go.RowKit

set_option maxRecDepth 100000 in
theorem dprint_no (f : Int) (h1 : f ≠ 32) (h2 : f ≠ 64) (b : Nat) (w : World) : Calls Tryz.prog 11 #[.int .i64 f, .int .u64 (b : Int)] w fun e w' => e = .returned (.tuple #[.string ⟨#[]⟩, .int .i64 1]) ∧ Below w.heap.size w w' := by
  have HC := Lib.hid (rchk_no f h1 h2 b)
  clear h1 h2
  go_enter Tryz.func11, Tryz.ntmps11
  go_wp2_with fail
  refine (HC.out _).mono ?_
  rintro e w1 ⟨rfl, hb1⟩
  go_wp2
  go_ret2
  exact ⟨rfl, hb1⟩
set_option maxRecDepth 100000 in
theorem dprint_wide (b : Nat) (hb : 4294967296 ≤ b) (hb2 : b < 18446744073709551616) (w : World) : Calls Tryz.prog 11 #[.int .i64 32, .int .u64 (b : Int)] w fun e w' => e = .returned (.tuple #[.string ⟨#[]⟩, .int .i64 2]) ∧ Below w.heap.size w w' := by
  have HC := Lib.hid (rchk_wide b hb2 hb)
  clear hb hb2
  go_enter Tryz.func11, Tryz.ntmps11
  go_wp2_with fail
  refine (HC.out _).mono ?_
  rintro e w1 ⟨rfl, hb1⟩
  go_wp2
  go_ret2
  exact ⟨rfl, hb1⟩

set_option maxRecDepth 100000 in
set_option maxHeartbeats 1000000 in
theorem dprint_zero_S (b : Nat) (hb : b < 4294967296) (hz : b % 2147483648 = 0) (w : World) :
    Calls Tryz.prog 11 #[.int .i64 32, .int .u64 (b : Int)] w fun e w' => e = .returned (.tuple #[.string ⟨(prR (decide (2147483648 ≤ b)) 0).toArray⟩, .int .i64 0]) ∧ Below w.heap.size w w' := by
  obtain ⟨neg, hneg⟩ : ∃ neg, decide (2147483648 ≤ b) = neg := ⟨_, rfl⟩
  have C1 := Lib.hid (rchk_S b hb)
  obtain ⟨sg, I, Q, hC2, hC3, h1, h2, h3⟩ : ∃ sg I Q : Int, (∀ w, Calls Tryz.prog 20 #[.int .i64 32] w fun e w' => e = .returned (.tuple #[.agg #[.int .u64 sg, .int .i64 24, .int .i64 (-149), .int .i64 104, .int .u64 I, .int .u64 Q], .bool true]) ∧ Below w.heap.size w w') ∧
      (∀ w, Calls Tryz.prog 25 #[.agg #[.int .u64 sg, .int .i64 24, .int .i64 (-149), .int .i64 104, .int .u64 I, .int .u64 Q], .int .u64 (b : Int)] w fun e w' => e = .returned (.tuple #[.bool (decide (2147483648 ≤ b)), .int .u64 ((b % 2147483648 : Nat) : Int)]) ∧ Below w.heap.size w w') ∧
      (((b % 2147483648 : Nat) : Int) ≤ I) ∧ ((((b % 2147483648 : Nat) : Int) == I) = false) ∧ ((((b % 2147483648 : Nat) : Int) == 0) = true) :=
    ⟨2147483648, 2139095040, 2143289345, rof07_S, rcut_S b (by omega), by omega, by rw [beq_eq_false_iff_ne]; omega, by rw [beq_iff_eq]; omega⟩
  rw [hneg] at hC3
  rw [hneg]
  clear hz
  obtain ⟨z, hz⟩ : ∃ z, b % 2147483648 = z := ⟨_, rfl⟩
  simp only [hz] at *
  have C2 := Lib.hid hC2
  have C3 := Lib.hid hC3
  clear hneg hb hC2 hC3 hz
  go_enter Tryz.func11, Tryz.ntmps11
  go_wp2_with fail
  refine (C1.out _).mono ?_
  rintro e w1 ⟨rfl, hb1⟩
  go_wp2_with fail
  refine (C2.out _).mono ?_
  rintro e w2 ⟨rfl, hb2⟩
  have hb2a := below_chain hb1 hb2
  have HW2 := Lib.hid (below_chain hb2a (below_alloc' w2 (.cells #[.int .u64 sg, .int .i64 24, .int .i64 (-149), .int .i64 104, .int .u64 I, .int .u64 Q] 58)))
  clear hb1 hb2 hb2a
  go_wp2_with fail
  refine (C3.out _).mono ?_
  rintro e w3 ⟨rfl, hb3⟩
  have y0 : w3.cell? ⟨w2.heap.size, 0, none⟩ = some (.int .u64 sg) := cell_kept hb3 (by simp)
  have y1 : w3.cell? ⟨w2.heap.size, 1, none⟩ = some (.int .i64 24) := cell_kept hb3 (by simp)
  have y2 : w3.cell? ⟨w2.heap.size, 2, none⟩ = some (.int .i64 (-149)) := cell_kept hb3 (by simp)
  have y3 : w3.cell? ⟨w2.heap.size, 3, none⟩ = some (.int .i64 104) := cell_kept hb3 (by simp)
  have y4 : w3.cell? ⟨w2.heap.size, 4, none⟩ = some (.int .u64 I) := cell_kept hb3 (by simp)
  have y5 : w3.cell? ⟨w2.heap.size, 5, none⟩ = some (.int .u64 Q) := cell_kept hb3 (by simp)
  have HW3 := Lib.hid (below_chain HW2.out hb3)
  clear hb3
  cases neg
  all_goals
    go_wp2
    go_ret2
    exact ⟨rfl, HW3.out⟩

set_option maxRecDepth 100000 in
set_option maxHeartbeats 1000000 in
theorem dprint_inf_S (b : Nat) (hb : b < 4294967296) (hz : b % 2147483648 = 2139095040) (w : World) :
    Calls Tryz.prog 11 #[.int .i64 32, .int .u64 (b : Int)] w fun e w' => e = .returned (.tuple #[.string ⟨(prR (decide (2147483648 ≤ b)) 3).toArray⟩, .int .i64 0]) ∧ Below w.heap.size w w' := by
  obtain ⟨neg, hneg⟩ : ∃ neg, decide (2147483648 ≤ b) = neg := ⟨_, rfl⟩
  have C1 := Lib.hid (rchk_S b hb)
  obtain ⟨sg, I, Q, hC2, hC3, h1, h2⟩ : ∃ sg I Q : Int, (∀ w, Calls Tryz.prog 20 #[.int .i64 32] w fun e w' => e = .returned (.tuple #[.agg #[.int .u64 sg, .int .i64 24, .int .i64 (-149), .int .i64 104, .int .u64 I, .int .u64 Q], .bool true]) ∧ Below w.heap.size w w') ∧
      (∀ w, Calls Tryz.prog 25 #[.agg #[.int .u64 sg, .int .i64 24, .int .i64 (-149), .int .i64 104, .int .u64 I, .int .u64 Q], .int .u64 (b : Int)] w fun e w' => e = .returned (.tuple #[.bool (decide (2147483648 ≤ b)), .int .u64 ((b % 2147483648 : Nat) : Int)]) ∧ Below w.heap.size w w') ∧
      (((b % 2147483648 : Nat) : Int) ≤ I) ∧ ((((b % 2147483648 : Nat) : Int) == I) = true) :=
    ⟨2147483648, 2139095040, 2143289345, rof07_S, rcut_S b (by omega), by omega, by rw [beq_iff_eq]; omega⟩
  rw [hneg] at hC3
  rw [hneg]
  clear hz
  obtain ⟨z, hz⟩ : ∃ z, b % 2147483648 = z := ⟨_, rfl⟩
  simp only [hz] at *
  have C2 := Lib.hid hC2
  have C3 := Lib.hid hC3
  clear hneg hb hC2 hC3 hz
  go_enter Tryz.func11, Tryz.ntmps11
  go_wp2_with fail
  refine (C1.out _).mono ?_
  rintro e w1 ⟨rfl, hb1⟩
  go_wp2_with fail
  refine (C2.out _).mono ?_
  rintro e w2 ⟨rfl, hb2⟩
  have hb2a := below_chain hb1 hb2
  have HW2 := Lib.hid (below_chain hb2a (below_alloc' w2 (.cells #[.int .u64 sg, .int .i64 24, .int .i64 (-149), .int .i64 104, .int .u64 I, .int .u64 Q] 58)))
  clear hb1 hb2 hb2a
  go_wp2_with fail
  refine (C3.out _).mono ?_
  rintro e w3 ⟨rfl, hb3⟩
  have y0 : w3.cell? ⟨w2.heap.size, 0, none⟩ = some (.int .u64 sg) := cell_kept hb3 (by simp)
  have y1 : w3.cell? ⟨w2.heap.size, 1, none⟩ = some (.int .i64 24) := cell_kept hb3 (by simp)
  have y2 : w3.cell? ⟨w2.heap.size, 2, none⟩ = some (.int .i64 (-149)) := cell_kept hb3 (by simp)
  have y3 : w3.cell? ⟨w2.heap.size, 3, none⟩ = some (.int .i64 104) := cell_kept hb3 (by simp)
  have y4 : w3.cell? ⟨w2.heap.size, 4, none⟩ = some (.int .u64 I) := cell_kept hb3 (by simp)
  have y5 : w3.cell? ⟨w2.heap.size, 5, none⟩ = some (.int .u64 Q) := cell_kept hb3 (by simp)
  have HW3 := Lib.hid (below_chain HW2.out hb3)
  clear hb3
  cases neg
  all_goals
    go_wp2
    go_ret2
    exact ⟨rfl, HW3.out⟩

set_option maxRecDepth 100000 in
set_option maxHeartbeats 1000000 in
theorem dprint_nan_S (b : Nat) (hb : b < 4294967296) (hz : 2139095040 < b % 2147483648) (w : World) :
    Calls Tryz.prog 11 #[.int .i64 32, .int .u64 (b : Int)] w fun e w' => e = .returned (.tuple #[.string ⟨(prR (decide (2147483648 ≤ b)) 4).toArray⟩, .int .i64 0]) ∧ Below w.heap.size w w' := by
  obtain ⟨neg, hneg⟩ : ∃ neg, decide (2147483648 ≤ b) = neg := ⟨_, rfl⟩
  have C1 := Lib.hid (rchk_S b hb)
  obtain ⟨sg, I, Q, hC2, hC3, h1⟩ : ∃ sg I Q : Int, (∀ w, Calls Tryz.prog 20 #[.int .i64 32] w fun e w' => e = .returned (.tuple #[.agg #[.int .u64 sg, .int .i64 24, .int .i64 (-149), .int .i64 104, .int .u64 I, .int .u64 Q], .bool true]) ∧ Below w.heap.size w w') ∧
      (∀ w, Calls Tryz.prog 25 #[.agg #[.int .u64 sg, .int .i64 24, .int .i64 (-149), .int .i64 104, .int .u64 I, .int .u64 Q], .int .u64 (b : Int)] w fun e w' => e = .returned (.tuple #[.bool (decide (2147483648 ≤ b)), .int .u64 ((b % 2147483648 : Nat) : Int)]) ∧ Below w.heap.size w w') ∧
      (I < ((b % 2147483648 : Nat) : Int)) :=
    ⟨2147483648, 2139095040, 2143289345, rof07_S, rcut_S b (by omega), by omega⟩
  rw [hneg] at hC3
  rw [hneg]
  clear hz
  obtain ⟨z, hz⟩ : ∃ z, b % 2147483648 = z := ⟨_, rfl⟩
  simp only [hz] at *
  have C2 := Lib.hid hC2
  have C3 := Lib.hid hC3
  clear hneg hb hC2 hC3 hz
  go_enter Tryz.func11, Tryz.ntmps11
  go_wp2_with fail
  refine (C1.out _).mono ?_
  rintro e w1 ⟨rfl, hb1⟩
  go_wp2_with fail
  refine (C2.out _).mono ?_
  rintro e w2 ⟨rfl, hb2⟩
  have hb2a := below_chain hb1 hb2
  have HW2 := Lib.hid (below_chain hb2a (below_alloc' w2 (.cells #[.int .u64 sg, .int .i64 24, .int .i64 (-149), .int .i64 104, .int .u64 I, .int .u64 Q] 58)))
  clear hb1 hb2 hb2a
  go_wp2_with fail
  refine (C3.out _).mono ?_
  rintro e w3 ⟨rfl, hb3⟩
  have y0 : w3.cell? ⟨w2.heap.size, 0, none⟩ = some (.int .u64 sg) := cell_kept hb3 (by simp)
  have y1 : w3.cell? ⟨w2.heap.size, 1, none⟩ = some (.int .i64 24) := cell_kept hb3 (by simp)
  have y2 : w3.cell? ⟨w2.heap.size, 2, none⟩ = some (.int .i64 (-149)) := cell_kept hb3 (by simp)
  have y3 : w3.cell? ⟨w2.heap.size, 3, none⟩ = some (.int .i64 104) := cell_kept hb3 (by simp)
  have y4 : w3.cell? ⟨w2.heap.size, 4, none⟩ = some (.int .u64 I) := cell_kept hb3 (by simp)
  have y5 : w3.cell? ⟨w2.heap.size, 5, none⟩ = some (.int .u64 Q) := cell_kept hb3 (by simp)
  have HW3 := Lib.hid (below_chain HW2.out hb3)
  clear hb3
  cases neg
  all_goals
    go_wp2
    go_ret2
    exact ⟨rfl, HW3.out⟩

set_option maxRecDepth 100000 in
set_option maxHeartbeats 1000000 in
theorem dprint_zero_D (b : Nat) (hb : b < 18446744073709551616) (hz : b % 9223372036854775808 = 0) (w : World) :
    Calls Tryz.prog 11 #[.int .i64 64, .int .u64 (b : Int)] w fun e w' => e = .returned (.tuple #[.string ⟨(prR (decide (9223372036854775808 ≤ b)) 0).toArray⟩, .int .i64 0]) ∧ Below w.heap.size w w' := by
  obtain ⟨neg, hneg⟩ : ∃ neg, decide (9223372036854775808 ≤ b) = neg := ⟨_, rfl⟩
  have C1 := Lib.hid (rchk_D b hb)
  obtain ⟨sg, I, Q, hC2, hC3, h1, h2, h3⟩ : ∃ sg I Q : Int, (∀ w, Calls Tryz.prog 20 #[.int .i64 64] w fun e w' => e = .returned (.tuple #[.agg #[.int .u64 sg, .int .i64 53, .int .i64 (-1074), .int .i64 971, .int .u64 I, .int .u64 Q], .bool true]) ∧ Below w.heap.size w w') ∧
      (∀ w, Calls Tryz.prog 25 #[.agg #[.int .u64 sg, .int .i64 53, .int .i64 (-1074), .int .i64 971, .int .u64 I, .int .u64 Q], .int .u64 (b : Int)] w fun e w' => e = .returned (.tuple #[.bool (decide (9223372036854775808 ≤ b)), .int .u64 ((b % 9223372036854775808 : Nat) : Int)]) ∧ Below w.heap.size w w') ∧
      (((b % 9223372036854775808 : Nat) : Int) ≤ I) ∧ ((((b % 9223372036854775808 : Nat) : Int) == I) = false) ∧ ((((b % 9223372036854775808 : Nat) : Int) == 0) = true) :=
    ⟨9223372036854775808, 9218868437227405312, 9221120237041090561, rof07_D, rcut_D b (by omega), by omega, by rw [beq_eq_false_iff_ne]; omega, by rw [beq_iff_eq]; omega⟩
  rw [hneg] at hC3
  rw [hneg]
  clear hz
  obtain ⟨z, hz⟩ : ∃ z, b % 9223372036854775808 = z := ⟨_, rfl⟩
  simp only [hz] at *
  have C2 := Lib.hid hC2
  have C3 := Lib.hid hC3
  clear hneg hb hC2 hC3 hz
  go_enter Tryz.func11, Tryz.ntmps11
  go_wp2_with fail
  refine (C1.out _).mono ?_
  rintro e w1 ⟨rfl, hb1⟩
  go_wp2_with fail
  refine (C2.out _).mono ?_
  rintro e w2 ⟨rfl, hb2⟩
  have hb2a := below_chain hb1 hb2
  have HW2 := Lib.hid (below_chain hb2a (below_alloc' w2 (.cells #[.int .u64 sg, .int .i64 53, .int .i64 (-1074), .int .i64 971, .int .u64 I, .int .u64 Q] 58)))
  clear hb1 hb2 hb2a
  go_wp2_with fail
  refine (C3.out _).mono ?_
  rintro e w3 ⟨rfl, hb3⟩
  have y0 : w3.cell? ⟨w2.heap.size, 0, none⟩ = some (.int .u64 sg) := cell_kept hb3 (by simp)
  have y1 : w3.cell? ⟨w2.heap.size, 1, none⟩ = some (.int .i64 53) := cell_kept hb3 (by simp)
  have y2 : w3.cell? ⟨w2.heap.size, 2, none⟩ = some (.int .i64 (-1074)) := cell_kept hb3 (by simp)
  have y3 : w3.cell? ⟨w2.heap.size, 3, none⟩ = some (.int .i64 971) := cell_kept hb3 (by simp)
  have y4 : w3.cell? ⟨w2.heap.size, 4, none⟩ = some (.int .u64 I) := cell_kept hb3 (by simp)
  have y5 : w3.cell? ⟨w2.heap.size, 5, none⟩ = some (.int .u64 Q) := cell_kept hb3 (by simp)
  have HW3 := Lib.hid (below_chain HW2.out hb3)
  clear hb3
  cases neg
  all_goals
    go_wp2
    go_ret2
    exact ⟨rfl, HW3.out⟩

set_option maxRecDepth 100000 in
set_option maxHeartbeats 1000000 in
theorem dprint_inf_D (b : Nat) (hb : b < 18446744073709551616) (hz : b % 9223372036854775808 = 9218868437227405312) (w : World) :
    Calls Tryz.prog 11 #[.int .i64 64, .int .u64 (b : Int)] w fun e w' => e = .returned (.tuple #[.string ⟨(prR (decide (9223372036854775808 ≤ b)) 3).toArray⟩, .int .i64 0]) ∧ Below w.heap.size w w' := by
  obtain ⟨neg, hneg⟩ : ∃ neg, decide (9223372036854775808 ≤ b) = neg := ⟨_, rfl⟩
  have C1 := Lib.hid (rchk_D b hb)
  obtain ⟨sg, I, Q, hC2, hC3, h1, h2⟩ : ∃ sg I Q : Int, (∀ w, Calls Tryz.prog 20 #[.int .i64 64] w fun e w' => e = .returned (.tuple #[.agg #[.int .u64 sg, .int .i64 53, .int .i64 (-1074), .int .i64 971, .int .u64 I, .int .u64 Q], .bool true]) ∧ Below w.heap.size w w') ∧
      (∀ w, Calls Tryz.prog 25 #[.agg #[.int .u64 sg, .int .i64 53, .int .i64 (-1074), .int .i64 971, .int .u64 I, .int .u64 Q], .int .u64 (b : Int)] w fun e w' => e = .returned (.tuple #[.bool (decide (9223372036854775808 ≤ b)), .int .u64 ((b % 9223372036854775808 : Nat) : Int)]) ∧ Below w.heap.size w w') ∧
      (((b % 9223372036854775808 : Nat) : Int) ≤ I) ∧ ((((b % 9223372036854775808 : Nat) : Int) == I) = true) :=
    ⟨9223372036854775808, 9218868437227405312, 9221120237041090561, rof07_D, rcut_D b (by omega), by omega, by rw [beq_iff_eq]; omega⟩
  rw [hneg] at hC3
  rw [hneg]
  clear hz
  obtain ⟨z, hz⟩ : ∃ z, b % 9223372036854775808 = z := ⟨_, rfl⟩
  simp only [hz] at *
  have C2 := Lib.hid hC2
  have C3 := Lib.hid hC3
  clear hneg hb hC2 hC3 hz
  go_enter Tryz.func11, Tryz.ntmps11
  go_wp2_with fail
  refine (C1.out _).mono ?_
  rintro e w1 ⟨rfl, hb1⟩
  go_wp2_with fail
  refine (C2.out _).mono ?_
  rintro e w2 ⟨rfl, hb2⟩
  have hb2a := below_chain hb1 hb2
  have HW2 := Lib.hid (below_chain hb2a (below_alloc' w2 (.cells #[.int .u64 sg, .int .i64 53, .int .i64 (-1074), .int .i64 971, .int .u64 I, .int .u64 Q] 58)))
  clear hb1 hb2 hb2a
  go_wp2_with fail
  refine (C3.out _).mono ?_
  rintro e w3 ⟨rfl, hb3⟩
  have y0 : w3.cell? ⟨w2.heap.size, 0, none⟩ = some (.int .u64 sg) := cell_kept hb3 (by simp)
  have y1 : w3.cell? ⟨w2.heap.size, 1, none⟩ = some (.int .i64 53) := cell_kept hb3 (by simp)
  have y2 : w3.cell? ⟨w2.heap.size, 2, none⟩ = some (.int .i64 (-1074)) := cell_kept hb3 (by simp)
  have y3 : w3.cell? ⟨w2.heap.size, 3, none⟩ = some (.int .i64 971) := cell_kept hb3 (by simp)
  have y4 : w3.cell? ⟨w2.heap.size, 4, none⟩ = some (.int .u64 I) := cell_kept hb3 (by simp)
  have y5 : w3.cell? ⟨w2.heap.size, 5, none⟩ = some (.int .u64 Q) := cell_kept hb3 (by simp)
  have HW3 := Lib.hid (below_chain HW2.out hb3)
  clear hb3
  cases neg
  all_goals
    go_wp2
    go_ret2
    exact ⟨rfl, HW3.out⟩

set_option maxRecDepth 100000 in
set_option maxHeartbeats 1000000 in
theorem dprint_nan_D (b : Nat) (hb : b < 18446744073709551616) (hz : 9218868437227405312 < b % 9223372036854775808) (w : World) :
    Calls Tryz.prog 11 #[.int .i64 64, .int .u64 (b : Int)] w fun e w' => e = .returned (.tuple #[.string ⟨(prR (decide (9223372036854775808 ≤ b)) 4).toArray⟩, .int .i64 0]) ∧ Below w.heap.size w w' := by
  obtain ⟨neg, hneg⟩ : ∃ neg, decide (9223372036854775808 ≤ b) = neg := ⟨_, rfl⟩
  have C1 := Lib.hid (rchk_D b hb)
  obtain ⟨sg, I, Q, hC2, hC3, h1⟩ : ∃ sg I Q : Int, (∀ w, Calls Tryz.prog 20 #[.int .i64 64] w fun e w' => e = .returned (.tuple #[.agg #[.int .u64 sg, .int .i64 53, .int .i64 (-1074), .int .i64 971, .int .u64 I, .int .u64 Q], .bool true]) ∧ Below w.heap.size w w') ∧
      (∀ w, Calls Tryz.prog 25 #[.agg #[.int .u64 sg, .int .i64 53, .int .i64 (-1074), .int .i64 971, .int .u64 I, .int .u64 Q], .int .u64 (b : Int)] w fun e w' => e = .returned (.tuple #[.bool (decide (9223372036854775808 ≤ b)), .int .u64 ((b % 9223372036854775808 : Nat) : Int)]) ∧ Below w.heap.size w w') ∧
      (I < ((b % 9223372036854775808 : Nat) : Int)) :=
    ⟨9223372036854775808, 9218868437227405312, 9221120237041090561, rof07_D, rcut_D b (by omega), by omega⟩
  rw [hneg] at hC3
  rw [hneg]
  clear hz
  obtain ⟨z, hz⟩ : ∃ z, b % 9223372036854775808 = z := ⟨_, rfl⟩
  simp only [hz] at *
  have C2 := Lib.hid hC2
  have C3 := Lib.hid hC3
  clear hneg hb hC2 hC3 hz
  go_enter Tryz.func11, Tryz.ntmps11
  go_wp2_with fail
  refine (C1.out _).mono ?_
  rintro e w1 ⟨rfl, hb1⟩
  go_wp2_with fail
  refine (C2.out _).mono ?_
  rintro e w2 ⟨rfl, hb2⟩
  have hb2a := below_chain hb1 hb2
  have HW2 := Lib.hid (below_chain hb2a (below_alloc' w2 (.cells #[.int .u64 sg, .int .i64 53, .int .i64 (-1074), .int .i64 971, .int .u64 I, .int .u64 Q] 58)))
  clear hb1 hb2 hb2a
  go_wp2_with fail
  refine (C3.out _).mono ?_
  rintro e w3 ⟨rfl, hb3⟩
  have y0 : w3.cell? ⟨w2.heap.size, 0, none⟩ = some (.int .u64 sg) := cell_kept hb3 (by simp)
  have y1 : w3.cell? ⟨w2.heap.size, 1, none⟩ = some (.int .i64 53) := cell_kept hb3 (by simp)
  have y2 : w3.cell? ⟨w2.heap.size, 2, none⟩ = some (.int .i64 (-1074)) := cell_kept hb3 (by simp)
  have y3 : w3.cell? ⟨w2.heap.size, 3, none⟩ = some (.int .i64 971) := cell_kept hb3 (by simp)
  have y4 : w3.cell? ⟨w2.heap.size, 4, none⟩ = some (.int .u64 I) := cell_kept hb3 (by simp)
  have y5 : w3.cell? ⟨w2.heap.size, 5, none⟩ = some (.int .u64 Q) := cell_kept hb3 (by simp)
  have HW3 := Lib.hid (below_chain HW2.out hb3)
  clear hb3
  cases neg
  all_goals
    go_wp2
    go_ret2
    exact ⟨rfl, HW3.out⟩
end Go.Proofs.YtooehlneoboenaaGreatDoor
