/- The walk of HexfloatPrints (printed by gen_prints.py). -/
import Derived.Test.YtooehlneoboenaaGreatDoorVs
import Derived.Test.YtooehlneoboenaaGreatDoorLa
namespace Go.Proofs.YtooehlneoboenaaGreatDoor
open Go.RowKit

/-- What both Prints answer. -/
def BothP (f : Int) (b : Nat) (s : ByteArray) (n : Int) : Prop :=
  (∀ w, Tab64 w → Tab10 w → Calls Tryz.prog 9 #[.int .i64 f, .int .u64 (b : Int)] w fun e w' => e = .returned (.tuple #[.string s, .int .i64 n]) ∧ Below w.heap.size w w') ∧
  (∀ w, Tab10 w → Calls Tryz.prog 11 #[.int .i64 f, .int .u64 (b : Int)] w fun e w' => e = .returned (.tuple #[.string s, .int .i64 n]) ∧ Below w.heap.size w w')

theorem both_S (b : Nat) (hb : b < 4294967296) : ∃ s n, BothP 32 b s n := by
  by_cases h0 : b % 2147483648 = 0
  · have hc : clsN 8388608 2139095040 (b % 2147483648) = 0 := by unfold clsN; rw [if_pos h0]
    refine ⟨_, _, fun w _ _ => ?_, fun w _ => dprint_zero_S b hb h0 w⟩
    have := print_rest_S b hb (.inl hc) w
    rwa [hc] at this
  by_cases h1 : b % 2147483648 < 2139095040
  · exact ⟨_, _, fun w ht h10 => print_num_S b hb h0 h1 w ht h10, fun w h10 => dprint_num_S b hb h0 h1 w h10⟩
  by_cases h2 : b % 2147483648 = 2139095040
  · have hc : clsN 8388608 2139095040 (b % 2147483648) = 3 := by
      unfold clsN; rw [if_neg h0, if_neg (by omega), if_neg (by omega), if_pos h2]
    refine ⟨_, _, fun w _ _ => ?_, fun w _ => dprint_inf_S b hb h2 w⟩
    have := print_rest_S b hb (.inr (.inl hc)) w
    rwa [hc] at this
  · have hc : clsN 8388608 2139095040 (b % 2147483648) = 4 := by
      unfold clsN; rw [if_neg h0, if_neg (by omega), if_neg (by omega), if_neg h2]
    refine ⟨_, _, fun w _ _ => ?_, fun w _ => dprint_nan_S b hb (by omega) w⟩
    have := print_rest_S b hb (.inr (.inr hc)) w
    rwa [hc] at this

theorem both_D (b : Nat) (hb : b < 18446744073709551616) : ∃ s n, BothP 64 b s n := by
  by_cases h0 : b % 9223372036854775808 = 0
  · have hc : clsN 4503599627370496 9218868437227405312 (b % 9223372036854775808) = 0 := by unfold clsN; rw [if_pos h0]
    refine ⟨_, _, fun w _ _ => ?_, fun w _ => dprint_zero_D b hb h0 w⟩
    have := print_rest_D b hb (.inl hc) w
    rwa [hc] at this
  by_cases h1 : b % 9223372036854775808 < 9218868437227405312
  · exact ⟨_, _, fun w ht h10 => print_num_D b hb h0 h1 w ht h10, fun w h10 => dprint_num_D b hb h0 h1 w h10⟩
  by_cases h2 : b % 9223372036854775808 = 9218868437227405312
  · have hc : clsN 4503599627370496 9218868437227405312 (b % 9223372036854775808) = 3 := by
      unfold clsN; rw [if_neg h0, if_neg (by omega), if_neg (by omega), if_pos h2]
    refine ⟨_, _, fun w _ _ => ?_, fun w _ => dprint_inf_D b hb h2 w⟩
    have := print_rest_D b hb (.inr (.inl hc)) w
    rwa [hc] at this
  · have hc : clsN 4503599627370496 9218868437227405312 (b % 9223372036854775808) = 4 := by
      unfold clsN; rw [if_neg h0, if_neg (by omega), if_neg (by omega), if_neg h2]
    refine ⟨_, _, fun w _ _ => ?_, fun w _ => dprint_nan_D b hb (by omega) w⟩
    have := print_rest_D b hb (.inr (.inr hc)) w
    rwa [hc] at this

theorem both_print (f : Int) (b : Nat) (hb : b < 18446744073709551616) : ∃ s n, BothP f b s n := by
  by_cases h1 : f = 32
  · subst h1
    by_cases hw : b < 4294967296
    · exact both_S b hw
    · exact ⟨_, _, fun w _ _ => print_wide b (by omega) hb w, fun w _ => dprint_wide b (by omega) hb w⟩
  by_cases h2 : f = 64
  · subst h2
    exact both_D b hb
  · exact ⟨_, _, fun w _ _ => print_no f h1 h2 b w, fun w _ => dprint_no f h1 h2 b w⟩

set_option maxRecDepth 100000 in
set_option maxHeartbeats 1000000 in
theorem plays_two (f : Int) (s : ByteArray) (b : Nat) (hb : b < 18446744073709551616) (w : World) (ht : Tab64 w) (h10 : Tab10 w) :
    Calls Tryz.prog 7 #[.agg #[.int .i64 2, .int .i64 f, .string s, .int .u64 (b : Int)]] w fun e w' => e = .returned (.bool true) ∧ Below w.heap.size w w' := by
  obtain ⟨t, n, hP, hR⟩ := both_print f b hb
  have HP := Lib.hid hP
  have HR := Lib.hid hR
  have HT := Lib.hid ht
  have H10 := Lib.hid h10
  have hb0 := below_alloc' w (.cells #[.int .i64 2, .int .i64 f, .string s, .int .u64 (b : Int)] 27)
  have HW0 := Lib.hid hb0
  clear hP hR ht h10 hb hb0
  go_enter Tryz.func7, Tryz.ntmps7
  go_wp2_with fail
  refine (HP.out _ (HT.out.below HW0.out) (H10.out.below HW0.out)).mono ?_
  rintro e w1 ⟨rfl, hb1⟩
  have HW1 := Lib.hid (below_chain HW0.out hb1)
  have y0 : w1.cell? ⟨w.heap.size, 0, none⟩ = some (.int .i64 2) := cell_kept hb1 (by simp)
  have y1 : w1.cell? ⟨w.heap.size, 1, none⟩ = some (.int .i64 f) := cell_kept hb1 (by simp)
  have y2 : w1.cell? ⟨w.heap.size, 2, none⟩ = some (.string s) := cell_kept hb1 (by simp)
  have y3 : w1.cell? ⟨w.heap.size, 3, none⟩ = some (.int .u64 (b : Int)) := cell_kept hb1 (by simp)
  clear hb1
  go_wp2_with fail
  refine (HR.out _ (H10.out.below HW1.out)).mono ?_
  rintro e w2 ⟨rfl, hb2⟩
  have HW2 := Lib.hid (below_chain HW1.out hb2)
  clear hb2 y0 y1 y2 y3
  go_wp2
  go_ret
  exact ⟨rfl, HW2.out⟩

set_option maxRecDepth 100000 in
theorem prints_walk (f : Int) (b : Nat) (hb : b < 18446744073709551616) (w : World) (ht : Tab64 w) (h10 : Tab10 w) :
    Calls Tryz.prog 4 #[.int .i64 f, .int .u64 (b : Int)] w fun e w' => e = .returned (.bool true) ∧ Below w.heap.size w w' := by
  have HP := Lib.hid (fun w ht h10 => plays_two f ⟨#[]⟩ b hb w ht h10)
  have HT := Lib.hid ht
  have H10 := Lib.hid h10
  clear ht h10 hb
  go_enter Tryz.func4, Tryz.ntmps4
  go_wp2_with fail
  refine (awake_walk w HT.out H10.out).mono ?_
  rintro e w1 ⟨rfl, hb1⟩
  have HW1 := Lib.hid hb1
  clear hb1
  go_wp2_with fail
  refine (HP.out _ (HT.out.below HW1.out) (H10.out.below HW1.out)).mono ?_
  rintro e w2 ⟨rfl, hb2⟩
  go_wp2
  go_ret
  exact ⟨rfl, below_chain HW1.out hb2⟩
end Go.Proofs.YtooehlneoboenaaGreatDoor
