/- Walks of binary: Split. -/
import Derived.Test.YtfacjlffkcbagaaGreatDoorBc
namespace Go.Proofs.YtfacjlffkcbagaaGreatDoor
open Go.RowKit
set_option maxRecDepth 100000 in
theorem split_S (b : Nat) (hb : b < 4294967296) (hfin : b % 2147483648 < 2139095040) (w : World) : Calls Tryz.prog 25 #[.int .i64 32, .int .u64 (b : Int)] w fun e w' => e = .returned (.tuple #[.bool (decide (2147483648 ≤ b)), .int .u64 ((ptM 8388608 (b % 2147483648) : Nat) : Int), .int .i64 (ptE 8388608 (-149) (b % 2147483648)), .int .i64 0]) ∧ Below w.heap.size w w' := by
  obtain ⟨neg, hneg⟩ : ∃ neg, decide (2147483648 ≤ b) = neg := ⟨_, rfl⟩
  obtain ⟨z, hz⟩ : ∃ z, b % 2147483648 = z := ⟨_, rfl⟩
  have HN := Lib.hid hneg
  have HZ := Lib.hid hz
  have HB := Lib.hid (show z < 2147483648 by rw [← hz]; exact Nat.mod_lt _ (by omega))
  rw [hneg, hz]
  clear hneg hz
  go_enter Tryz.func25, Tryz.ntmps25
  go_wp2_with fail
  refine (finite_S b hb hfin _).mono ?_
  rintro e w1 ⟨rfl, hb1⟩
  rw [HN.out, HZ.out]
  clear hb hfin HN HZ
  have hb2 := below_alloc' w1 (.cells #[.int .i64 32, .int .i64 24, .int .i64 (-149), .int .u64 2143289345] 70)
  go_wp2_with fail
  refine (parts_S z HB.out _).mono ?_
  rintro e w2 ⟨rfl, hb3⟩
  go_wp2
  refine bodyPost_ret (v := .tuple #[.bool neg, .int .u64 ((ptM 8388608 z : Nat) : Int), .int .i64 (ptE 8388608 (-149) z), .int .i64 0]) (by simp [results, Tryz.results25, go_sem]) rfl ⟨rfl, ?_⟩
  exact below_chain (below_chain hb1 hb2) hb3

set_option maxRecDepth 100000 in
theorem split_D (b : Nat) (hb : b < 18446744073709551616) (hfin : b % 9223372036854775808 < 9218868437227405312) (w : World) : Calls Tryz.prog 25 #[.int .i64 64, .int .u64 (b : Int)] w fun e w' => e = .returned (.tuple #[.bool (decide (9223372036854775808 ≤ b)), .int .u64 ((ptM 4503599627370496 (b % 9223372036854775808) : Nat) : Int), .int .i64 (ptE 4503599627370496 (-1074) (b % 9223372036854775808)), .int .i64 0]) ∧ Below w.heap.size w w' := by
  obtain ⟨neg, hneg⟩ : ∃ neg, decide (9223372036854775808 ≤ b) = neg := ⟨_, rfl⟩
  obtain ⟨z, hz⟩ : ∃ z, b % 9223372036854775808 = z := ⟨_, rfl⟩
  have HN := Lib.hid hneg
  have HZ := Lib.hid hz
  have HB := Lib.hid (show z < 9223372036854775808 by rw [← hz]; exact Nat.mod_lt _ (by omega))
  rw [hneg, hz]
  clear hneg hz
  go_enter Tryz.func25, Tryz.ntmps25
  go_wp2_with fail
  refine (finite_D b hb hfin _).mono ?_
  rintro e w1 ⟨rfl, hb1⟩
  rw [HN.out, HZ.out]
  clear hb hfin HN HZ
  have hb2 := below_alloc' w1 (.cells #[.int .i64 64, .int .i64 53, .int .i64 (-1074), .int .u64 9221120237041090561] 70)
  go_wp2_with fail
  refine (parts_D z HB.out _).mono ?_
  rintro e w2 ⟨rfl, hb3⟩
  go_wp2
  refine bodyPost_ret (v := .tuple #[.bool neg, .int .u64 ((ptM 4503599627370496 z : Nat) : Int), .int .i64 (ptE 4503599627370496 (-1074) z), .int .i64 0]) (by simp [results, Tryz.results25, go_sem]) rfl ⟨rfl, ?_⟩
  exact below_chain (below_chain hb1 hb2) hb3
end Go.Proofs.YtfacjlffkcbagaaGreatDoor
