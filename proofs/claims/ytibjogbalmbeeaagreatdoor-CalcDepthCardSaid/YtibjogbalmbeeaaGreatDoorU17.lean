/- Walks of binary: take, class, finite, parts, ClassOf, Split (printed by gen_bin.py). · Walks of binary: class, finite, parts, ClassOf, Split (printed by gen_bin.py). · Walks of binary: finite, ClassOf, Split (printed by gen_bin.py). -/
import Derived.Test.YtibjogbalmbeeaaGreatDoorU16
import Derived.Laws.BitsAllLaws

namespace Go.Proofs.YtibjogbalmbeeaaGreatDoor
open Go.RowKit

theorem andnot_low (k b : Nat) (hk : k < 64) (hb : b < 2 ^ (k + 1)) : b &&& (18446744073709551615 - 2 ^ k) = b % 2 ^ k := by
  apply Nat.eq_of_testBit_eq
  intro i
  have hp : 2 ^ k < 2 ^ 64 := Nat.pow_lt_pow_right (by omega) hk
  rw [show 18446744073709551615 - 2 ^ k = 2 ^ 64 - (2 ^ k + 1) by omega, Nat.testBit_and, Nat.testBit_two_pow_sub_succ hp, Nat.testBit_mod_two_pow, Nat.testBit_two_pow]
  by_cases h1 : i < k
  · simp [h1, show i < 64 by omega, show ¬ k = i by omega]
  · by_cases h2 : k = i
    · subst h2; simp
    · have h3 : b.testBit i = false := Nat.testBit_lt_two_pow (Nat.lt_of_lt_of_le hb (Nat.pow_le_pow_right (by omega) (by omega)))
      simp [h1, h3]
theorem and_top (k b : Nat) (hb : b < 2 ^ (k + 1)) : (b &&& 2 ^ k != 0) = decide (2 ^ k ≤ b) := by
  have hp := Nat.two_pow_pos k
  have hT : b.testBit k = decide (2 ^ k ≤ b) := by
    rw [Nat.testBit_eq_decide_div_mod_eq]
    have h2 : b / 2 ^ k < 2 := by rw [Nat.div_lt_iff_lt_mul hp, Nat.mul_comm, ← Nat.pow_succ]; exact hb
    by_cases h : 2 ^ k ≤ b
    · have := Nat.div_pos h hp
      simp [h]; omega
    · rw [Nat.div_eq_of_lt (by omega)]; simp [h]
  have hb2 : (b &&& 2 ^ k).testBit k = decide (2 ^ k ≤ b) := by rw [Nat.testBit_and, Nat.testBit_two_pow, hT]; simp
  by_cases h : 2 ^ k ≤ b
  · have : b &&& 2 ^ k ≠ 0 := fun e => by rw [e] at hb2; simp [h] at hb2
    simp [h, this]
  · have : b &&& 2 ^ k = 0 := by
      apply Nat.eq_of_testBit_eq
      intro i
      rw [Nat.testBit_and, Nat.testBit_two_pow, Nat.zero_testBit]
      by_cases e : k = i
      · rw [← e, hT]; simp [h]
      · simp [e]
    simp [h, this]
/-- Block g begins with four cells that may be written. -/
def Any4 (W : World) (g : Nat) : Prop := (∃ v0 v1 v2 v3, W.cell? ⟨g, 0, none⟩ = some v0 ∧ W.cell? ⟨g, 1, none⟩ = some v1 ∧ W.cell? ⟨g, 2, none⟩ = some v2 ∧ W.cell? ⟨g, 3, none⟩ = some v3) ∧ W.frozen? ⟨g, 0, none⟩ = false ∧ W.frozen? ⟨g, 1, none⟩ = false ∧ W.frozen? ⟨g, 2, none⟩ = false ∧ W.frozen? ⟨g, 3, none⟩ = false ∧ g < W.heap.size
theorem Any4.below {W w1 : World} {g : Nat} (h : Any4 W g) (hb : Below W.heap.size W w1) : Any4 w1 g := by
  obtain ⟨⟨v0, v1, v2, v3, h0, h1, h2, h3⟩, f0, f1, f2, f3, hg⟩ := h
  exact ⟨⟨v0, v1, v2, v3, cell_kept hb h0, cell_kept hb h1, cell_kept hb h2, cell_kept hb h3⟩, (hb.frozen (p := ⟨g, 0, none⟩) hg).trans f0, (hb.frozen (p := ⟨g, 1, none⟩) hg).trans f1, (hb.frozen (p := ⟨g, 2, none⟩) hg).trans f2, (hb.frozen (p := ⟨g, 3, none⟩) hg).trans f3, Nat.lt_of_lt_of_le hg hb.size⟩
def Box4 (W : World) (g : Nat) (v0 v1 v2 v3 : Value) : Prop := W.cell? ⟨g, 0, none⟩ = some v0 ∧ W.cell? ⟨g, 1, none⟩ = some v1 ∧ W.cell? ⟨g, 2, none⟩ = some v2 ∧ W.cell? ⟨g, 3, none⟩ = some v3 ∧ W.frozen? ⟨g, 0, none⟩ = false ∧ W.frozen? ⟨g, 1, none⟩ = false ∧ W.frozen? ⟨g, 2, none⟩ = false ∧ W.frozen? ⟨g, 3, none⟩ = false ∧ g < W.heap.size
theorem Box4.below {W w1 : World} {g : Nat} {v0 v1 v2 v3 : Value} (h : Box4 W g v0 v1 v2 v3) (hb : Below W.heap.size W w1) : Box4 w1 g v0 v1 v2 v3 := by
  obtain ⟨h0, h1, h2, h3, f0, f1, f2, f3, hg⟩ := h
  exact ⟨cell_kept hb h0, cell_kept hb h1, cell_kept hb h2, cell_kept hb h3, (hb.frozen (p := ⟨g, 0, none⟩) hg).trans f0, (hb.frozen (p := ⟨g, 1, none⟩) hg).trans f1, (hb.frozen (p := ⟨g, 2, none⟩) hg).trans f2, (hb.frozen (p := ⟨g, 3, none⟩) hg).trans f3, Nat.lt_of_lt_of_le hg hb.size⟩
theorem far_cell {W : World} {g g' j k : Nat} {x v : Value} (h : g < g') (hc : W.cell? ⟨g', k, none⟩ = some v) : (W.setCell ⟨g, j, none⟩ x).cell? ⟨g', k, none⟩ = some v :=
  (cell_other (fun e => by have := congrArg Addr.block e; simp at this; omega)).trans hc
theorem some_set {W : World} {a b : Addr} {x v : Value} (h : W.cell? b = some x) : ∃ y, (W.setCell a v).cell? b = some y := by
  by_cases e : a = b
  · subst e; exact ⟨v, World.cell?_setCell_same' _ _ _ (by rw [h]; rfl)⟩
  · exact ⟨x, (cell_other e).trans h⟩
theorem Any4.set {W : World} {g : Nat} (h : Any4 W g) (a : Addr) (v : Value) : Any4 (W.setCell a v) g := by
  obtain ⟨⟨v0, v1, v2, v3, h0, h1, h2, h3⟩, f0, f1, f2, f3, hg⟩ := h
  obtain ⟨y0, k0⟩ := some_set (a := a) (v := v) h0
  obtain ⟨y1, k1⟩ := some_set (a := a) (v := v) h1
  obtain ⟨y2, k2⟩ := some_set (a := a) (v := v) h2
  obtain ⟨y3, k3⟩ := some_set (a := a) (v := v) h3
  exact ⟨⟨y0, y1, y2, y3, k0, k1, k2, k3⟩, by simpa using f0, by simpa using f1, by simpa using f2, by simpa using f3, by simpa using hg⟩
/-- The class of a size. -/
def clsN (hi inf z : Nat) : Nat := if z = 0 then 0 else if z < hi then 1 else if z < inf then 2 else if z = inf then 3 else 4

set_option maxRecDepth 100000 in
theorem shidden_S (w : World) : Calls Tryz.prog 65 #[.agg #[.int .i64 32, .int .i64 24, .int .i64 (-149), .int .u64 2143289345]] w fun e w' => e = .returned (.int .u64 8388608) ∧ Below w.heap.size w w' := by
  go_enter Tryz.func65, Tryz.ntmps65
  go_wp2
  go_ret
  exact ⟨rfl, below_alloc' w _⟩

set_option maxRecDepth 100000 in
theorem ssign_S (w : World) : Calls Tryz.prog 64 #[.agg #[.int .i64 32, .int .i64 24, .int .i64 (-149), .int .u64 2143289345]] w fun e w' => e = .returned (.int .u64 2147483648) ∧ Below w.heap.size w w' := by
  go_enter Tryz.func64, Tryz.ntmps64
  go_wp2
  go_ret
  exact ⟨rfl, below_alloc' w _⟩

set_option maxRecDepth 100000 in
theorem sinf_S (w : World) : Calls Tryz.prog 66 #[.agg #[.int .i64 32, .int .i64 24, .int .i64 (-149), .int .u64 2143289345]] w fun e w' => e = .returned (.int .u64 2139095040) ∧ Below w.heap.size w w' := by
  have hw3 := below_alloc' w (.cells #[.int .i64 32, .int .i64 24, .int .i64 (-149), .int .u64 2143289345] 78)
  have HWd := Lib.hid hw3.drew
  go_enter Tryz.func66, Tryz.ntmps66
  go_wp2_with fail
  go_region_held3 (fun w' => w'.cell? ⟨w.heap.size, 0, none⟩ = some (.int .i64 32) ∧ w'.cell? ⟨w.heap.size, 1, none⟩ = some (.int .i64 24) ∧ w'.cell? ⟨w.heap.size, 2, none⟩ = some (.int .i64 (-149)) ∧ w'.cell? ⟨w.heap.size, 3, none⟩ = some (.int .u64 2143289345) ∧ Hid (Below w.heap.size w w'))
    (first | exact ⟨by simp, by simp, by simp, by simp, HWd⟩ | (go_split_ands; exact ⟨cell_kept hb5 (by assumption), cell_kept hb5 (by assumption), cell_kept hb5 (by assumption), cell_kept hb5 (by assumption), Lib.hid (below_chain (Hid.out (by assumption)) hb5)⟩))
    (first | (go_at_call 64; refine (ssign_S _).mono ?_; rintro e w5 ⟨rfl, hb5⟩) | (go_at_call 65; refine (shidden_S _).mono ?_; rintro e w5 ⟨rfl, hb5⟩))
  all_goals
    go_wp2
    go_ret
    first | exact ⟨rfl, below_chain (Hid.out (by assumption)) hb5⟩ | exact ⟨rfl, below_chain (below_chain HWd.out (by assumption)) hb5⟩

set_option maxRecDepth 100000 in
set_option maxHeartbeats 2000000 in
theorem take_ok_S (b : Nat) (hb : b < 4294967296) (w : World) : Calls Tryz.prog 30 #[.int .i64 32, .int .u64 (b : Int)] w fun e w' => e = .returned (.tuple #[.agg #[.int .i64 32, .int .i64 24, .int .i64 (-149), .int .u64 2143289345], .bool (decide (2147483648 ≤ b)), .int .u64 ((b % 2147483648 : Nat) : Int), .int .i64 0]) ∧ Below w.heap.size w w' := by
  obtain ⟨neg, hneg⟩ : ∃ neg, decide (2147483648 ≤ b) = neg := ⟨_, rfl⟩
  obtain ⟨z, hz⟩ : ∃ z, b % 2147483648 = z := ⟨_, rfl⟩
  have hne : (bits .and .u64 (b : Int) 2147483648 != 0) = neg := by
    have h1 := bits_and_u64_nat b 2147483648 (by omega) (by omega)
    rw [show ((2147483648 : Nat) : Int) = 2147483648 from rfl] at h1
    have h2 := and_top 31 b hb
    rw [show (2 : Nat) ^ 31 = 2147483648 from rfl, hneg] at h2
    rw [← h2, h1]
    cases h : (b &&& 2147483648 != 0)
    · have : b &&& 2147483648 = 0 := by simpa using h
      rw [this]; rfl
    · have : b &&& 2147483648 ≠ 0 := by simpa using h
      rw [bne_iff_ne]; omega
  have han : bits .andNot .u64 (b : Int) 2147483648 = (z : Int) := by
    have h1 := u64_andNot_nat b 2147483648 (by omega) (by omega)
    rw [show ((2147483648 : Nat) : Int) = 2147483648 from rfl] at h1
    rw [h1]
    have h2 := andnot_low 31 b (by omega) hb
    rw [show (2 : Nat) ^ 31 = 2147483648 from rfl, hz] at h2
    exact congrArg Int.ofNat h2
  have hw1 := below_alloc' w (.cells #[.int .i64 0, .int .i64 0, .int .i64 0, .int .u64 0] 78)
  rw [hneg, hz]
  clear hneg hz
  go_enter Tryz.func30, Tryz.ntmps30
  go_wp2_with fail
  refine (shapeOf_S _).mono ?_
  rintro e w1 ⟨rfl, hb1⟩
  go_wp2_with fail
  have hw2 := below_alloc' w1 (.cells #[.int .i64 32, .int .i64 24, .int .i64 (-149), .int .u64 2143289345] 78)
  have hs1 : w.heap.size < w1.heap.size := by have := hb1.size; simp at this; omega
  have hA : Any4 (w.alloc (.cells #[.int .i64 0, .int .i64 0, .int .i64 0, .int .u64 0] 78)) w.heap.size := ⟨⟨.int .i64 0, .int .i64 0, .int .i64 0, .int .u64 0, by simp, by simp, by simp, by simp⟩, by simp, by simp, by simp, by simp, by simp⟩
  have HA := Lib.hid ((hA.below hb1).below (below_chain hw2 (below_draw' _)))
  have HWd := Lib.hid ((below_chain (below_chain hw1 hb1) hw2).drew)
  clear hw1 hw2 hb1 hA
  go_region_held3 (fun w' => w'.cell? ⟨w1.heap.size, 0, none⟩ = some (.int .i64 32) ∧ w'.cell? ⟨w1.heap.size, 1, none⟩ = some (.int .i64 24) ∧ w'.cell? ⟨w1.heap.size, 2, none⟩ = some (.int .i64 (-149)) ∧ w'.cell? ⟨w1.heap.size, 3, none⟩ = some (.int .u64 2143289345) ∧
      Hid (Any4 w' w.heap.size) ∧ Hid (Below w.heap.size w w'))
    (first | exact ⟨by simp, by simp, by simp, by simp, HA, HWd⟩ | (go_split_ands; exact ⟨cell_kept hb5 (by assumption), cell_kept hb5 (by assumption), cell_kept hb5 (by assumption), cell_kept hb5 (by assumption), Lib.hid (Any4.below (Hid.out (by assumption)) hb5), Lib.hid (below_chain (Hid.out (by assumption)) hb5)⟩) | (go_split_ands; exact ⟨far_cell hs1 (far_cell hs1 (far_cell hs1 (far_cell hs1 (by assumption)))), far_cell hs1 (far_cell hs1 (far_cell hs1 (far_cell hs1 (by assumption)))), far_cell hs1 (far_cell hs1 (far_cell hs1 (far_cell hs1 (by assumption)))), far_cell hs1 (far_cell hs1 (far_cell hs1 (far_cell hs1 (by assumption)))), Lib.hid ((((Any4.set (Hid.out (by assumption)) _ _).set _ _).set _ _).set _ _), Lib.hid ((((Below.setCell (Hid.out (by assumption)) (by simp) _).setCell (by simp) _).setCell (by simp) _).setCell (by simp) _)⟩))
    (first | (go_at_call 64; refine (ssign_S _).mono ?_; rintro e w5 ⟨rfl, hb5⟩; go_split_ands; obtain ⟨⟨v0, v1, v2, v3, g0, g1, g2, g3⟩, k0, k1, k2, k3, _⟩ := Any4.below (g := w.heap.size) (Hid.out (by assumption)) hb5))
  all_goals
    have HWf := Lib.hid (show Below w.heap.size w w5 from below_chain (Hid.out (by assumption)) hb5)
    have g4 : w.heap.size < w5.heap.size := by assumption
    go_wp2
    have r0 : ((((w5.setCell ⟨w.heap.size, 0, none⟩ (.int .i64 32)).setCell ⟨w.heap.size, 1, none⟩ (.int .i64 24)).setCell ⟨w.heap.size, 2, none⟩ (.int .i64 (-149))).setCell ⟨w.heap.size, 3, none⟩ (.int .u64 2143289345)).cell? ⟨w.heap.size, 0, none⟩ = some (.int .i64 32) := by
      rw [cell_other (by simp), cell_other (by simp), cell_other (by simp)]; exact World.cell?_setCell_same' _ _ _ (by rw [g0]; rfl)
    have r1 : ((((w5.setCell ⟨w.heap.size, 0, none⟩ (.int .i64 32)).setCell ⟨w.heap.size, 1, none⟩ (.int .i64 24)).setCell ⟨w.heap.size, 2, none⟩ (.int .i64 (-149))).setCell ⟨w.heap.size, 3, none⟩ (.int .u64 2143289345)).cell? ⟨w.heap.size, 1, none⟩ = some (.int .i64 24) := by
      rw [cell_other (by simp), cell_other (by simp)]; exact World.cell?_setCell_same' _ _ _ (by rw [cell_other (by simp), g1]; rfl)
    have r2 : ((((w5.setCell ⟨w.heap.size, 0, none⟩ (.int .i64 32)).setCell ⟨w.heap.size, 1, none⟩ (.int .i64 24)).setCell ⟨w.heap.size, 2, none⟩ (.int .i64 (-149))).setCell ⟨w.heap.size, 3, none⟩ (.int .u64 2143289345)).cell? ⟨w.heap.size, 2, none⟩ = some (.int .i64 (-149)) := by
      rw [cell_other (by simp)]; exact World.cell?_setCell_same' _ _ _ (by rw [cell_other (by simp), cell_other (by simp), g2]; rfl)
    have r3 : ((((w5.setCell ⟨w.heap.size, 0, none⟩ (.int .i64 32)).setCell ⟨w.heap.size, 1, none⟩ (.int .i64 24)).setCell ⟨w.heap.size, 2, none⟩ (.int .i64 (-149))).setCell ⟨w.heap.size, 3, none⟩ (.int .u64 2143289345)).cell? ⟨w.heap.size, 3, none⟩ = some (.int .u64 2143289345) := by
      exact World.cell?_setCell_same' _ _ _ (by rw [cell_other (by simp), cell_other (by simp), cell_other (by simp), g3]; rfl)
    refine bodyPost_ret (v := .tuple #[.agg #[.int .i64 32, .int .i64 24, .int .i64 (-149), .int .u64 2143289345], .bool neg, .int .u64 (z : Int), .int .i64 0]) (by simp [results, Tryz.results30, go_sem, r0, r1, r2, r3]) rfl ⟨rfl, ?_⟩
    exact (((HWf.out.setCell (by simp) _).setCell (by simp) _).setCell (by simp) _).setCell (by simp) _

set_option maxRecDepth 100000 in
theorem shidden_D (w : World) : Calls Tryz.prog 65 #[.agg #[.int .i64 64, .int .i64 53, .int .i64 (-1074), .int .u64 9221120237041090561]] w fun e w' => e = .returned (.int .u64 4503599627370496) ∧ Below w.heap.size w w' := by
  go_enter Tryz.func65, Tryz.ntmps65
  go_wp2
  go_ret
  exact ⟨rfl, below_alloc' w _⟩

set_option maxRecDepth 100000 in
theorem ssign_D (w : World) : Calls Tryz.prog 64 #[.agg #[.int .i64 64, .int .i64 53, .int .i64 (-1074), .int .u64 9221120237041090561]] w fun e w' => e = .returned (.int .u64 9223372036854775808) ∧ Below w.heap.size w w' := by
  go_enter Tryz.func64, Tryz.ntmps64
  go_wp2
  go_ret
  exact ⟨rfl, below_alloc' w _⟩

set_option maxRecDepth 100000 in
theorem sinf_D (w : World) : Calls Tryz.prog 66 #[.agg #[.int .i64 64, .int .i64 53, .int .i64 (-1074), .int .u64 9221120237041090561]] w fun e w' => e = .returned (.int .u64 9218868437227405312) ∧ Below w.heap.size w w' := by
  have hw3 := below_alloc' w (.cells #[.int .i64 64, .int .i64 53, .int .i64 (-1074), .int .u64 9221120237041090561] 78)
  have HWd := Lib.hid hw3.drew
  go_enter Tryz.func66, Tryz.ntmps66
  go_wp2_with fail
  go_region_held3 (fun w' => w'.cell? ⟨w.heap.size, 0, none⟩ = some (.int .i64 64) ∧ w'.cell? ⟨w.heap.size, 1, none⟩ = some (.int .i64 53) ∧ w'.cell? ⟨w.heap.size, 2, none⟩ = some (.int .i64 (-1074)) ∧ w'.cell? ⟨w.heap.size, 3, none⟩ = some (.int .u64 9221120237041090561) ∧ Hid (Below w.heap.size w w'))
    (first | exact ⟨by simp, by simp, by simp, by simp, HWd⟩ | (go_split_ands; exact ⟨cell_kept hb5 (by assumption), cell_kept hb5 (by assumption), cell_kept hb5 (by assumption), cell_kept hb5 (by assumption), Lib.hid (below_chain (Hid.out (by assumption)) hb5)⟩))
    (first | (go_at_call 64; refine (ssign_D _).mono ?_; rintro e w5 ⟨rfl, hb5⟩) | (go_at_call 65; refine (shidden_D _).mono ?_; rintro e w5 ⟨rfl, hb5⟩))
  all_goals
    go_wp2
    go_ret
    first | exact ⟨rfl, below_chain (Hid.out (by assumption)) hb5⟩ | exact ⟨rfl, below_chain (below_chain HWd.out (by assumption)) hb5⟩

set_option maxRecDepth 100000 in
set_option maxHeartbeats 2000000 in
theorem take_ok_D (b : Nat) (hb : b < 18446744073709551616) (w : World) : Calls Tryz.prog 30 #[.int .i64 64, .int .u64 (b : Int)] w fun e w' => e = .returned (.tuple #[.agg #[.int .i64 64, .int .i64 53, .int .i64 (-1074), .int .u64 9221120237041090561], .bool (decide (9223372036854775808 ≤ b)), .int .u64 ((b % 9223372036854775808 : Nat) : Int), .int .i64 0]) ∧ Below w.heap.size w w' := by
  obtain ⟨neg, hneg⟩ : ∃ neg, decide (9223372036854775808 ≤ b) = neg := ⟨_, rfl⟩
  obtain ⟨z, hz⟩ : ∃ z, b % 9223372036854775808 = z := ⟨_, rfl⟩
  have hne : (bits .and .u64 (b : Int) 9223372036854775808 != 0) = neg := by
    have h1 := bits_and_u64_nat b 9223372036854775808 (by omega) (by omega)
    rw [show ((9223372036854775808 : Nat) : Int) = 9223372036854775808 from rfl] at h1
    have h2 := and_top 63 b hb
    rw [show (2 : Nat) ^ 63 = 9223372036854775808 from rfl, hneg] at h2
    rw [← h2, h1]
    cases h : (b &&& 9223372036854775808 != 0)
    · have : b &&& 9223372036854775808 = 0 := by simpa using h
      rw [this]; rfl
    · have : b &&& 9223372036854775808 ≠ 0 := by simpa using h
      rw [bne_iff_ne]; omega
  have han : bits .andNot .u64 (b : Int) 9223372036854775808 = (z : Int) := by
    have h1 := u64_andNot_nat b 9223372036854775808 (by omega) (by omega)
    rw [show ((9223372036854775808 : Nat) : Int) = 9223372036854775808 from rfl] at h1
    rw [h1]
    have h2 := andnot_low 63 b (by omega) hb
    rw [show (2 : Nat) ^ 63 = 9223372036854775808 from rfl, hz] at h2
    exact congrArg Int.ofNat h2
  have hw1 := below_alloc' w (.cells #[.int .i64 0, .int .i64 0, .int .i64 0, .int .u64 0] 78)
  rw [hneg, hz]
  clear hneg hz
  go_enter Tryz.func30, Tryz.ntmps30
  go_wp2_with fail
  refine (shapeOf_D _).mono ?_
  rintro e w1 ⟨rfl, hb1⟩
  go_wp2_with fail
  have hw2 := below_alloc' w1 (.cells #[.int .i64 64, .int .i64 53, .int .i64 (-1074), .int .u64 9221120237041090561] 78)
  have hs1 : w.heap.size < w1.heap.size := by have := hb1.size; simp at this; omega
  have hA : Any4 (w.alloc (.cells #[.int .i64 0, .int .i64 0, .int .i64 0, .int .u64 0] 78)) w.heap.size := ⟨⟨.int .i64 0, .int .i64 0, .int .i64 0, .int .u64 0, by simp, by simp, by simp, by simp⟩, by simp, by simp, by simp, by simp, by simp⟩
  have HA := Lib.hid ((hA.below hb1).below (below_chain hw2 (below_draw' _)))
  have HWd := Lib.hid ((below_chain (below_chain hw1 hb1) hw2).drew)
  clear hw1 hw2 hb1 hA
  go_region_held3 (fun w' => w'.cell? ⟨w1.heap.size, 0, none⟩ = some (.int .i64 64) ∧ w'.cell? ⟨w1.heap.size, 1, none⟩ = some (.int .i64 53) ∧ w'.cell? ⟨w1.heap.size, 2, none⟩ = some (.int .i64 (-1074)) ∧ w'.cell? ⟨w1.heap.size, 3, none⟩ = some (.int .u64 9221120237041090561) ∧
      Hid (Any4 w' w.heap.size) ∧ Hid (Below w.heap.size w w'))
    (first | exact ⟨by simp, by simp, by simp, by simp, HA, HWd⟩ | (go_split_ands; exact ⟨cell_kept hb5 (by assumption), cell_kept hb5 (by assumption), cell_kept hb5 (by assumption), cell_kept hb5 (by assumption), Lib.hid (Any4.below (Hid.out (by assumption)) hb5), Lib.hid (below_chain (Hid.out (by assumption)) hb5)⟩) | (go_split_ands; exact ⟨far_cell hs1 (far_cell hs1 (far_cell hs1 (far_cell hs1 (by assumption)))), far_cell hs1 (far_cell hs1 (far_cell hs1 (far_cell hs1 (by assumption)))), far_cell hs1 (far_cell hs1 (far_cell hs1 (far_cell hs1 (by assumption)))), far_cell hs1 (far_cell hs1 (far_cell hs1 (far_cell hs1 (by assumption)))), Lib.hid ((((Any4.set (Hid.out (by assumption)) _ _).set _ _).set _ _).set _ _), Lib.hid ((((Below.setCell (Hid.out (by assumption)) (by simp) _).setCell (by simp) _).setCell (by simp) _).setCell (by simp) _)⟩))
    (first | (go_at_call 64; refine (ssign_D _).mono ?_; rintro e w5 ⟨rfl, hb5⟩; go_split_ands; obtain ⟨⟨v0, v1, v2, v3, g0, g1, g2, g3⟩, k0, k1, k2, k3, _⟩ := Any4.below (g := w.heap.size) (Hid.out (by assumption)) hb5))
  all_goals
    have HWf := Lib.hid (show Below w.heap.size w w5 from below_chain (Hid.out (by assumption)) hb5)
    have g4 : w.heap.size < w5.heap.size := by assumption
    go_wp2
    have r0 : ((((w5.setCell ⟨w.heap.size, 0, none⟩ (.int .i64 64)).setCell ⟨w.heap.size, 1, none⟩ (.int .i64 53)).setCell ⟨w.heap.size, 2, none⟩ (.int .i64 (-1074))).setCell ⟨w.heap.size, 3, none⟩ (.int .u64 9221120237041090561)).cell? ⟨w.heap.size, 0, none⟩ = some (.int .i64 64) := by
      rw [cell_other (by simp), cell_other (by simp), cell_other (by simp)]; exact World.cell?_setCell_same' _ _ _ (by rw [g0]; rfl)
    have r1 : ((((w5.setCell ⟨w.heap.size, 0, none⟩ (.int .i64 64)).setCell ⟨w.heap.size, 1, none⟩ (.int .i64 53)).setCell ⟨w.heap.size, 2, none⟩ (.int .i64 (-1074))).setCell ⟨w.heap.size, 3, none⟩ (.int .u64 9221120237041090561)).cell? ⟨w.heap.size, 1, none⟩ = some (.int .i64 53) := by
      rw [cell_other (by simp), cell_other (by simp)]; exact World.cell?_setCell_same' _ _ _ (by rw [cell_other (by simp), g1]; rfl)
    have r2 : ((((w5.setCell ⟨w.heap.size, 0, none⟩ (.int .i64 64)).setCell ⟨w.heap.size, 1, none⟩ (.int .i64 53)).setCell ⟨w.heap.size, 2, none⟩ (.int .i64 (-1074))).setCell ⟨w.heap.size, 3, none⟩ (.int .u64 9221120237041090561)).cell? ⟨w.heap.size, 2, none⟩ = some (.int .i64 (-1074)) := by
      rw [cell_other (by simp)]; exact World.cell?_setCell_same' _ _ _ (by rw [cell_other (by simp), cell_other (by simp), g2]; rfl)
    have r3 : ((((w5.setCell ⟨w.heap.size, 0, none⟩ (.int .i64 64)).setCell ⟨w.heap.size, 1, none⟩ (.int .i64 53)).setCell ⟨w.heap.size, 2, none⟩ (.int .i64 (-1074))).setCell ⟨w.heap.size, 3, none⟩ (.int .u64 9221120237041090561)).cell? ⟨w.heap.size, 3, none⟩ = some (.int .u64 9221120237041090561) := by
      exact World.cell?_setCell_same' _ _ _ (by rw [cell_other (by simp), cell_other (by simp), cell_other (by simp), g3]; rfl)
    refine bodyPost_ret (v := .tuple #[.agg #[.int .i64 64, .int .i64 53, .int .i64 (-1074), .int .u64 9221120237041090561], .bool neg, .int .u64 (z : Int), .int .i64 0]) (by simp [results, Tryz.results30, go_sem, r0, r1, r2, r3]) rfl ⟨rfl, ?_⟩
    exact (((HWf.out.setCell (by simp) _).setCell (by simp) _).setCell (by simp) _).setCell (by simp) _
end Go.Proofs.YtibjogbalmbeeaaGreatDoor

namespace Go.Proofs.YtibjogbalmbeeaaGreatDoor
open Go.RowKit

/-- The mantissa and the exponent of a size. -/
def ptM (hi z : Nat) : Nat := if z / hi = 0 then z % hi else hi + z % hi
def ptE (hi : Nat) (lo : Int) (z : Nat) : Int := if z / hi = 0 then lo else lo + ((z / hi : Nat) : Int) - 1

set_option maxRecDepth 100000 in
theorem class_S (z : Nat) (w : World) : Calls Tryz.prog 31 #[.agg #[.int .i64 32, .int .i64 24, .int .i64 (-149), .int .u64 2143289345], .int .u64 (z : Int)] w fun e w' => e = .returned (.int .i64 ((clsN 8388608 2139095040 z : Nat) : Int)) ∧ Below w.heap.size w w' := by
  have hb0 := below_alloc' w (.cells #[.int .i64 32, .int .i64 24, .int .i64 (-149), .int .u64 2143289345] 78)
  have hc : clsN 8388608 2139095040 z = if z = 0 then 0 else if z < 8388608 then 1 else if z < 2139095040 then 2 else if z = 2139095040 then 3 else 4 := rfl
  by_cases h0 : z = 0
  · rw [if_pos h0] at hc
    rw [hc]
    have hb : ((z : Int) == 0) = true := by rw [beq_iff_eq]; omega
    clear hc
    go_enter Tryz.func31, Tryz.ntmps31
    go_wp2
    go_ret
    exact ⟨rfl, hb0⟩
  have hz : ((z : Int) == 0) = false := by rw [beq_eq_false_iff_ne]; omega
  rw [if_neg h0] at hc
  by_cases h1 : z < 8388608
  · rw [if_pos h1] at hc
    rw [hc]
    have hl : (z : Int) < 8388608 := by omega
    clear hc
    go_enter Tryz.func31, Tryz.ntmps31
    go_wp2_with fail
    refine (shidden_S _).mono ?_
    rintro e w1 ⟨rfl, hb1⟩
    go_wp2
    go_ret
    exact ⟨rfl, below_chain hb0 hb1⟩
  have hl : 8388608 ≤ (z : Int) := by omega
  rw [if_neg h1] at hc
  by_cases h2 : z < 2139095040
  · rw [if_pos h2] at hc
    rw [hc]
    obtain ⟨nf, hnf⟩ : ∃ nf : Int, (2139095040 : Int) = nf := ⟨_, rfl⟩
    have hl2 : (z : Int) < nf := by omega
    have HNF := Lib.hid hnf
    clear hc h0 h1 h2 hnf
    go_enter Tryz.func31, Tryz.ntmps31
    go_wp2_with fail
    refine (shidden_S _).mono ?_
    rintro e w1 ⟨rfl, hb1⟩
    generalize (8388608 : Int) = hi at hl ⊢
    have y0 : w1.cell? ⟨w.heap.size, 0, none⟩ = some (.int .i64 32) := cell_kept hb1 (by first | assumption | simp)
    have y1 : w1.cell? ⟨w.heap.size, 1, none⟩ = some (.int .i64 24) := cell_kept hb1 (by first | assumption | simp)
    have y2 : w1.cell? ⟨w.heap.size, 2, none⟩ = some (.int .i64 (-149)) := cell_kept hb1 (by first | assumption | simp)
    have y3 : w1.cell? ⟨w.heap.size, 3, none⟩ = some (.int .u64 2143289345) := cell_kept hb1 (by first | assumption | simp)
    go_wp2_with fail
    refine (sinf_S _).mono ?_
    rintro e w2 ⟨rfl, hb2⟩
    rw [HNF.out]
    go_wp2
    go_ret
    exact ⟨rfl, below_chain (below_chain hb0 hb1) hb2⟩
  have hl2 : 2139095040 ≤ (z : Int) := by omega
  rw [if_neg h2] at hc
  obtain ⟨q, hq⟩ : ∃ q, decide (z = 2139095040) = q := ⟨_, rfl⟩
  have hqi : ((z : Int) == 2139095040) = q := by
    rw [← hq, Bool.eq_iff_iff, beq_iff_eq, decide_eq_true_iff]; omega
  have hc2 : clsN 8388608 2139095040 z = if q = true then 3 else 4 := by rw [hc, ← hq]; simp
  rw [hc2]
  clear hc hc2 hq h0 h1 h2
  cases q
  all_goals
    go_enter Tryz.func31, Tryz.ntmps31
    go_wp2_with fail
    refine (shidden_S _).mono ?_
    rintro e w1 ⟨rfl, hb1⟩
    generalize (8388608 : Int) = hi at hl ⊢
    have y0 : w1.cell? ⟨w.heap.size, 0, none⟩ = some (.int .i64 32) := cell_kept hb1 (by first | assumption | simp)
    have y1 : w1.cell? ⟨w.heap.size, 1, none⟩ = some (.int .i64 24) := cell_kept hb1 (by first | assumption | simp)
    have y2 : w1.cell? ⟨w.heap.size, 2, none⟩ = some (.int .i64 (-149)) := cell_kept hb1 (by first | assumption | simp)
    have y3 : w1.cell? ⟨w.heap.size, 3, none⟩ = some (.int .u64 2143289345) := cell_kept hb1 (by first | assumption | simp)
    go_wp2_with fail
    refine (sinf_S _).mono ?_
    rintro e w2 ⟨rfl, hb2⟩
    have hqj := hqi
    generalize (2139095040 : Int) = nf at hl2 hqj ⊢
    have x0 : w2.cell? ⟨w.heap.size, 0, none⟩ = some (.int .i64 32) := cell_kept hb2 (by first | assumption | simp)
    have x1 : w2.cell? ⟨w.heap.size, 1, none⟩ = some (.int .i64 24) := cell_kept hb2 (by first | assumption | simp)
    have x2 : w2.cell? ⟨w.heap.size, 2, none⟩ = some (.int .i64 (-149)) := cell_kept hb2 (by first | assumption | simp)
    have x3 : w2.cell? ⟨w.heap.size, 3, none⟩ = some (.int .u64 2143289345) := cell_kept hb2 (by first | assumption | simp)
    go_wp2_with fail
    refine (sinf_S _).mono ?_
    rintro e w3 ⟨rfl, hb3⟩
    go_wp2
    go_ret
    exact ⟨rfl, below_chain (below_chain (below_chain hb0 hb1) hb2) hb3⟩

set_option maxRecDepth 100000 in
theorem parts_S (z : Nat) (hz : z < 2147483648) (w : World) : Calls Tryz.prog 47 #[.agg #[.int .i64 32, .int .i64 24, .int .i64 (-149), .int .u64 2143289345], .int .u64 (z : Int)] w fun e w' => e = .returned (.tuple #[.int .u64 ((ptM 8388608 z : Nat) : Int), .int .i64 (ptE 8388608 (-149) z)]) ∧ Below w.heap.size w w' := by
  have hb0 := below_alloc' w (.cells #[.int .i64 32, .int .i64 24, .int .i64 (-149), .int .u64 2143289345] 78)
  obtain ⟨q, hq⟩ : ∃ q, z / 8388608 = q := ⟨_, rfl⟩
  obtain ⟨r, hr⟩ : ∃ r, z % 8388608 = r := ⟨_, rfl⟩
  have hqi : (z : Int) / 8388608 = (q : Int) := by omega
  have hri : (z : Int) % 8388608 = (r : Int) := by omega
  have hqb : q < 4096 := by omega
  have hrb : r < 8388608 := by omega
  have hM : ptM 8388608 z = if q = 0 then r else 8388608 + r := by unfold ptM; rw [hq, hr]
  have hE : ptE 8388608 (-149) z = if q = 0 then ((-149) : Int) else ((-149) : Int) + (q : Int) - 1 := by unfold ptE; rw [hq]
  rw [hM, hE]
  have kw1 : IntKind.u64.wrap (8388608 + (r : Int)) = 8388608 + (r : Int) := by rw [IntKind.wrap_u64]; omega
  have kw2 : IntKind.i64.wrap (q : Int) = (q : Int) := by rw [IntKind.wrap_i64]; omega
  have kw3 : IntKind.i64.wrap (((-149) : Int) + (q : Int)) = ((-149) : Int) + (q : Int) := by rw [IntKind.wrap_i64]; omega
  have kw4 : IntKind.i64.wrap (((-149) : Int) + (q : Int) - 1) = ((-149) : Int) + (q : Int) - 1 := by rw [IntKind.wrap_i64]; omega
  clear hq hr hM hE
  by_cases h0 : q = 0
  · rw [if_pos h0, if_pos h0]
    subst h0
    go_enter Tryz.func47, Tryz.ntmps47
    go_wp2_with fail
    refine (shidden_S _).mono ?_
    rintro e w1 ⟨rfl, hb1⟩
    have y0 : w1.cell? ⟨w.heap.size, 0, none⟩ = some (.int .i64 32) := cell_kept hb1 (by first | assumption | simp)
    have y1 : w1.cell? ⟨w.heap.size, 1, none⟩ = some (.int .i64 24) := cell_kept hb1 (by first | assumption | simp)
    have y2 : w1.cell? ⟨w.heap.size, 2, none⟩ = some (.int .i64 (-149)) := cell_kept hb1 (by first | assumption | simp)
    have y3 : w1.cell? ⟨w.heap.size, 3, none⟩ = some (.int .u64 2143289345) := cell_kept hb1 (by first | assumption | simp)
    go_wp2_with fail
    refine (shidden_S _).mono ?_
    rintro e w2 ⟨rfl, hb2⟩
    have x0 : w2.cell? ⟨w.heap.size, 0, none⟩ = some (.int .i64 32) := cell_kept hb2 (by first | assumption | simp)
    have x1 : w2.cell? ⟨w.heap.size, 1, none⟩ = some (.int .i64 24) := cell_kept hb2 (by first | assumption | simp)
    have x2 : w2.cell? ⟨w.heap.size, 2, none⟩ = some (.int .i64 (-149)) := cell_kept hb2 (by first | assumption | simp)
    have x3 : w2.cell? ⟨w.heap.size, 3, none⟩ = some (.int .u64 2143289345) := cell_kept hb2 (by first | assumption | simp)
    go_wp2
    go_quiet (fail)
    go_wp2
    go_ret2
    refine ⟨?_, below_dn (below_chain (below_chain hb0 hb1) hb2) _⟩
    first | rfl | (rw [← hri]; rfl)
  · rw [if_neg h0, if_neg h0]
    have hqz : ((q : Int) == 0) = false := by rw [beq_eq_false_iff_ne]; omega
    go_enter Tryz.func47, Tryz.ntmps47
    go_wp2_with fail
    refine (shidden_S _).mono ?_
    rintro e w1 ⟨rfl, hb1⟩
    have y0 : w1.cell? ⟨w.heap.size, 0, none⟩ = some (.int .i64 32) := cell_kept hb1 (by first | assumption | simp)
    have y1 : w1.cell? ⟨w.heap.size, 1, none⟩ = some (.int .i64 24) := cell_kept hb1 (by first | assumption | simp)
    have y2 : w1.cell? ⟨w.heap.size, 2, none⟩ = some (.int .i64 (-149)) := cell_kept hb1 (by first | assumption | simp)
    have y3 : w1.cell? ⟨w.heap.size, 3, none⟩ = some (.int .u64 2143289345) := cell_kept hb1 (by first | assumption | simp)
    go_wp2_with fail
    refine (shidden_S _).mono ?_
    rintro e w2 ⟨rfl, hb2⟩
    have hw2 := below_chain (below_chain hb0 hb1) hb2
    have hbx := below_chain (below_chain hb1 hb2) (below_draw' w2)
    have HB := Lib.hid hbx
    have HWd := Lib.hid hw2.drew
    have x0 : w2.cell? ⟨w.heap.size, 0, none⟩ = some (.int .i64 32) := cell_kept hb2 (by first | assumption | simp)
    have x1 : w2.cell? ⟨w.heap.size, 1, none⟩ = some (.int .i64 24) := cell_kept hb2 (by first | assumption | simp)
    have x2 : w2.cell? ⟨w.heap.size, 2, none⟩ = some (.int .i64 (-149)) := cell_kept hb2 (by first | assumption | simp)
    have x3 : w2.cell? ⟨w.heap.size, 3, none⟩ = some (.int .u64 2143289345) := cell_kept hb2 (by first | assumption | simp)
    go_wp2_with fail
    go_region_held3 (fun w' => w'.cell? ⟨w.heap.size, 0, none⟩ = some (.int .i64 32) ∧ w'.cell? ⟨w.heap.size, 1, none⟩ = some (.int .i64 24) ∧ w'.cell? ⟨w.heap.size, 2, none⟩ = some (.int .i64 (-149)) ∧ w'.cell? ⟨w.heap.size, 3, none⟩ = some (.int .u64 2143289345) ∧ Hid (Below w.heap.size w w'))
      (first | exact ⟨by simpa using x0, by simpa using x1, by simpa using x2, by simpa using x3, HWd⟩ | (go_split_ands; exact ⟨cell_kept hb5 (by assumption), cell_kept hb5 (by assumption), cell_kept hb5 (by assumption), cell_kept hb5 (by assumption), Lib.hid (below_chain (Hid.out (by assumption)) hb5)⟩))
      (first | (go_at_call 65; refine (shidden_S _).mono ?_; rintro e w5 ⟨rfl, hb5⟩))
    all_goals
      have HWf := Lib.hid (show Below w.heap.size w w5 from below_chain (Hid.out (by assumption)) hb5)
      go_wp2
      go_ret2
      refine ⟨?_, HWf.out⟩
      first | rfl | (congr 4 <;> omega) | (rw [Int.natCast_add]; rfl)

set_option maxRecDepth 100000 in
theorem class_D (z : Nat) (w : World) : Calls Tryz.prog 31 #[.agg #[.int .i64 64, .int .i64 53, .int .i64 (-1074), .int .u64 9221120237041090561], .int .u64 (z : Int)] w fun e w' => e = .returned (.int .i64 ((clsN 4503599627370496 9218868437227405312 z : Nat) : Int)) ∧ Below w.heap.size w w' := by
  have hb0 := below_alloc' w (.cells #[.int .i64 64, .int .i64 53, .int .i64 (-1074), .int .u64 9221120237041090561] 78)
  have hc : clsN 4503599627370496 9218868437227405312 z = if z = 0 then 0 else if z < 4503599627370496 then 1 else if z < 9218868437227405312 then 2 else if z = 9218868437227405312 then 3 else 4 := rfl
  by_cases h0 : z = 0
  · rw [if_pos h0] at hc
    rw [hc]
    have hb : ((z : Int) == 0) = true := by rw [beq_iff_eq]; omega
    clear hc
    go_enter Tryz.func31, Tryz.ntmps31
    go_wp2
    go_ret
    exact ⟨rfl, hb0⟩
  have hz : ((z : Int) == 0) = false := by rw [beq_eq_false_iff_ne]; omega
  rw [if_neg h0] at hc
  by_cases h1 : z < 4503599627370496
  · rw [if_pos h1] at hc
    rw [hc]
    have hl : (z : Int) < 4503599627370496 := by omega
    clear hc
    go_enter Tryz.func31, Tryz.ntmps31
    go_wp2_with fail
    refine (shidden_D _).mono ?_
    rintro e w1 ⟨rfl, hb1⟩
    go_wp2
    go_ret
    exact ⟨rfl, below_chain hb0 hb1⟩
  have hl : 4503599627370496 ≤ (z : Int) := by omega
  rw [if_neg h1] at hc
  by_cases h2 : z < 9218868437227405312
  · rw [if_pos h2] at hc
    rw [hc]
    obtain ⟨nf, hnf⟩ : ∃ nf : Int, (9218868437227405312 : Int) = nf := ⟨_, rfl⟩
    have hl2 : (z : Int) < nf := by omega
    have HNF := Lib.hid hnf
    clear hc h0 h1 h2 hnf
    go_enter Tryz.func31, Tryz.ntmps31
    go_wp2_with fail
    refine (shidden_D _).mono ?_
    rintro e w1 ⟨rfl, hb1⟩
    generalize (4503599627370496 : Int) = hi at hl ⊢
    have y0 : w1.cell? ⟨w.heap.size, 0, none⟩ = some (.int .i64 64) := cell_kept hb1 (by first | assumption | simp)
    have y1 : w1.cell? ⟨w.heap.size, 1, none⟩ = some (.int .i64 53) := cell_kept hb1 (by first | assumption | simp)
    have y2 : w1.cell? ⟨w.heap.size, 2, none⟩ = some (.int .i64 (-1074)) := cell_kept hb1 (by first | assumption | simp)
    have y3 : w1.cell? ⟨w.heap.size, 3, none⟩ = some (.int .u64 9221120237041090561) := cell_kept hb1 (by first | assumption | simp)
    go_wp2_with fail
    refine (sinf_D _).mono ?_
    rintro e w2 ⟨rfl, hb2⟩
    rw [HNF.out]
    go_wp2
    go_ret
    exact ⟨rfl, below_chain (below_chain hb0 hb1) hb2⟩
  have hl2 : 9218868437227405312 ≤ (z : Int) := by omega
  rw [if_neg h2] at hc
  obtain ⟨q, hq⟩ : ∃ q, decide (z = 9218868437227405312) = q := ⟨_, rfl⟩
  have hqi : ((z : Int) == 9218868437227405312) = q := by
    rw [← hq, Bool.eq_iff_iff, beq_iff_eq, decide_eq_true_iff]; omega
  have hc2 : clsN 4503599627370496 9218868437227405312 z = if q = true then 3 else 4 := by rw [hc, ← hq]; simp
  rw [hc2]
  clear hc hc2 hq h0 h1 h2
  cases q
  all_goals
    go_enter Tryz.func31, Tryz.ntmps31
    go_wp2_with fail
    refine (shidden_D _).mono ?_
    rintro e w1 ⟨rfl, hb1⟩
    generalize (4503599627370496 : Int) = hi at hl ⊢
    have y0 : w1.cell? ⟨w.heap.size, 0, none⟩ = some (.int .i64 64) := cell_kept hb1 (by first | assumption | simp)
    have y1 : w1.cell? ⟨w.heap.size, 1, none⟩ = some (.int .i64 53) := cell_kept hb1 (by first | assumption | simp)
    have y2 : w1.cell? ⟨w.heap.size, 2, none⟩ = some (.int .i64 (-1074)) := cell_kept hb1 (by first | assumption | simp)
    have y3 : w1.cell? ⟨w.heap.size, 3, none⟩ = some (.int .u64 9221120237041090561) := cell_kept hb1 (by first | assumption | simp)
    go_wp2_with fail
    refine (sinf_D _).mono ?_
    rintro e w2 ⟨rfl, hb2⟩
    have hqj := hqi
    generalize (9218868437227405312 : Int) = nf at hl2 hqj ⊢
    have x0 : w2.cell? ⟨w.heap.size, 0, none⟩ = some (.int .i64 64) := cell_kept hb2 (by first | assumption | simp)
    have x1 : w2.cell? ⟨w.heap.size, 1, none⟩ = some (.int .i64 53) := cell_kept hb2 (by first | assumption | simp)
    have x2 : w2.cell? ⟨w.heap.size, 2, none⟩ = some (.int .i64 (-1074)) := cell_kept hb2 (by first | assumption | simp)
    have x3 : w2.cell? ⟨w.heap.size, 3, none⟩ = some (.int .u64 9221120237041090561) := cell_kept hb2 (by first | assumption | simp)
    go_wp2_with fail
    refine (sinf_D _).mono ?_
    rintro e w3 ⟨rfl, hb3⟩
    go_wp2
    go_ret
    exact ⟨rfl, below_chain (below_chain (below_chain hb0 hb1) hb2) hb3⟩

set_option maxRecDepth 100000 in
theorem parts_D (z : Nat) (hz : z < 9223372036854775808) (w : World) : Calls Tryz.prog 47 #[.agg #[.int .i64 64, .int .i64 53, .int .i64 (-1074), .int .u64 9221120237041090561], .int .u64 (z : Int)] w fun e w' => e = .returned (.tuple #[.int .u64 ((ptM 4503599627370496 z : Nat) : Int), .int .i64 (ptE 4503599627370496 (-1074) z)]) ∧ Below w.heap.size w w' := by
  have hb0 := below_alloc' w (.cells #[.int .i64 64, .int .i64 53, .int .i64 (-1074), .int .u64 9221120237041090561] 78)
  obtain ⟨q, hq⟩ : ∃ q, z / 4503599627370496 = q := ⟨_, rfl⟩
  obtain ⟨r, hr⟩ : ∃ r, z % 4503599627370496 = r := ⟨_, rfl⟩
  have hqi : (z : Int) / 4503599627370496 = (q : Int) := by omega
  have hri : (z : Int) % 4503599627370496 = (r : Int) := by omega
  have hqb : q < 4096 := by omega
  have hrb : r < 4503599627370496 := by omega
  have hM : ptM 4503599627370496 z = if q = 0 then r else 4503599627370496 + r := by unfold ptM; rw [hq, hr]
  have hE : ptE 4503599627370496 (-1074) z = if q = 0 then ((-1074) : Int) else ((-1074) : Int) + (q : Int) - 1 := by unfold ptE; rw [hq]
  rw [hM, hE]
  have kw1 : IntKind.u64.wrap (4503599627370496 + (r : Int)) = 4503599627370496 + (r : Int) := by rw [IntKind.wrap_u64]; omega
  have kw2 : IntKind.i64.wrap (q : Int) = (q : Int) := by rw [IntKind.wrap_i64]; omega
  have kw3 : IntKind.i64.wrap (((-1074) : Int) + (q : Int)) = ((-1074) : Int) + (q : Int) := by rw [IntKind.wrap_i64]; omega
  have kw4 : IntKind.i64.wrap (((-1074) : Int) + (q : Int) - 1) = ((-1074) : Int) + (q : Int) - 1 := by rw [IntKind.wrap_i64]; omega
  clear hq hr hM hE
  by_cases h0 : q = 0
  · rw [if_pos h0, if_pos h0]
    subst h0
    go_enter Tryz.func47, Tryz.ntmps47
    go_wp2_with fail
    refine (shidden_D _).mono ?_
    rintro e w1 ⟨rfl, hb1⟩
    have y0 : w1.cell? ⟨w.heap.size, 0, none⟩ = some (.int .i64 64) := cell_kept hb1 (by first | assumption | simp)
    have y1 : w1.cell? ⟨w.heap.size, 1, none⟩ = some (.int .i64 53) := cell_kept hb1 (by first | assumption | simp)
    have y2 : w1.cell? ⟨w.heap.size, 2, none⟩ = some (.int .i64 (-1074)) := cell_kept hb1 (by first | assumption | simp)
    have y3 : w1.cell? ⟨w.heap.size, 3, none⟩ = some (.int .u64 9221120237041090561) := cell_kept hb1 (by first | assumption | simp)
    go_wp2_with fail
    refine (shidden_D _).mono ?_
    rintro e w2 ⟨rfl, hb2⟩
    have x0 : w2.cell? ⟨w.heap.size, 0, none⟩ = some (.int .i64 64) := cell_kept hb2 (by first | assumption | simp)
    have x1 : w2.cell? ⟨w.heap.size, 1, none⟩ = some (.int .i64 53) := cell_kept hb2 (by first | assumption | simp)
    have x2 : w2.cell? ⟨w.heap.size, 2, none⟩ = some (.int .i64 (-1074)) := cell_kept hb2 (by first | assumption | simp)
    have x3 : w2.cell? ⟨w.heap.size, 3, none⟩ = some (.int .u64 9221120237041090561) := cell_kept hb2 (by first | assumption | simp)
    go_wp2
    go_quiet (fail)
    go_wp2
    go_ret2
    refine ⟨?_, below_dn (below_chain (below_chain hb0 hb1) hb2) _⟩
    first | rfl | (rw [← hri]; rfl)
  · rw [if_neg h0, if_neg h0]
    have hqz : ((q : Int) == 0) = false := by rw [beq_eq_false_iff_ne]; omega
    go_enter Tryz.func47, Tryz.ntmps47
    go_wp2_with fail
    refine (shidden_D _).mono ?_
    rintro e w1 ⟨rfl, hb1⟩
    have y0 : w1.cell? ⟨w.heap.size, 0, none⟩ = some (.int .i64 64) := cell_kept hb1 (by first | assumption | simp)
    have y1 : w1.cell? ⟨w.heap.size, 1, none⟩ = some (.int .i64 53) := cell_kept hb1 (by first | assumption | simp)
    have y2 : w1.cell? ⟨w.heap.size, 2, none⟩ = some (.int .i64 (-1074)) := cell_kept hb1 (by first | assumption | simp)
    have y3 : w1.cell? ⟨w.heap.size, 3, none⟩ = some (.int .u64 9221120237041090561) := cell_kept hb1 (by first | assumption | simp)
    go_wp2_with fail
    refine (shidden_D _).mono ?_
    rintro e w2 ⟨rfl, hb2⟩
    have hw2 := below_chain (below_chain hb0 hb1) hb2
    have hbx := below_chain (below_chain hb1 hb2) (below_draw' w2)
    have HB := Lib.hid hbx
    have HWd := Lib.hid hw2.drew
    have x0 : w2.cell? ⟨w.heap.size, 0, none⟩ = some (.int .i64 64) := cell_kept hb2 (by first | assumption | simp)
    have x1 : w2.cell? ⟨w.heap.size, 1, none⟩ = some (.int .i64 53) := cell_kept hb2 (by first | assumption | simp)
    have x2 : w2.cell? ⟨w.heap.size, 2, none⟩ = some (.int .i64 (-1074)) := cell_kept hb2 (by first | assumption | simp)
    have x3 : w2.cell? ⟨w.heap.size, 3, none⟩ = some (.int .u64 9221120237041090561) := cell_kept hb2 (by first | assumption | simp)
    go_wp2_with fail
    go_region_held3 (fun w' => w'.cell? ⟨w.heap.size, 0, none⟩ = some (.int .i64 64) ∧ w'.cell? ⟨w.heap.size, 1, none⟩ = some (.int .i64 53) ∧ w'.cell? ⟨w.heap.size, 2, none⟩ = some (.int .i64 (-1074)) ∧ w'.cell? ⟨w.heap.size, 3, none⟩ = some (.int .u64 9221120237041090561) ∧ Hid (Below w.heap.size w w'))
      (first | exact ⟨by simpa using x0, by simpa using x1, by simpa using x2, by simpa using x3, HWd⟩ | (go_split_ands; exact ⟨cell_kept hb5 (by assumption), cell_kept hb5 (by assumption), cell_kept hb5 (by assumption), cell_kept hb5 (by assumption), Lib.hid (below_chain (Hid.out (by assumption)) hb5)⟩))
      (first | (go_at_call 65; refine (shidden_D _).mono ?_; rintro e w5 ⟨rfl, hb5⟩))
    all_goals
      have HWf := Lib.hid (show Below w.heap.size w w5 from below_chain (Hid.out (by assumption)) hb5)
      go_wp2
      go_ret2
      refine ⟨?_, HWf.out⟩
      first | rfl | (congr 4 <;> omega) | (rw [Int.natCast_add]; rfl)
end Go.Proofs.YtibjogbalmbeeaaGreatDoor

namespace Go.Proofs.YtibjogbalmbeeaaGreatDoor
open Go.RowKit

set_option maxRecDepth 100000 in
theorem classOf_S (b : Nat) (hb : b < 4294967296) (w : World) : Calls Tryz.prog 16 #[.int .i64 32, .int .u64 (b : Int)] w fun e w' => e = .returned (.tuple #[.int .i64 ((clsN 8388608 2139095040 (b % 2147483648) : Nat) : Int), .int .i64 0]) ∧ Below w.heap.size w w' := by
  obtain ⟨neg, hneg⟩ : ∃ neg, decide (2147483648 ≤ b) = neg := ⟨_, rfl⟩
  obtain ⟨z, hz⟩ : ∃ z, b % 2147483648 = z := ⟨_, rfl⟩
  have HN := Lib.hid hneg
  have HZ := Lib.hid hz
  rw [hz]
  clear hneg hz
  go_enter Tryz.func16, Tryz.ntmps16
  go_wp2_with fail
  refine (take_ok_S b hb _).mono ?_
  rintro e w1 ⟨rfl, hb1⟩
  rw [HN.out, HZ.out]
  clear hb HN HZ
  have hb2 := below_alloc' w1 (.cells #[.int .i64 32, .int .i64 24, .int .i64 (-149), .int .u64 2143289345] 78)
  go_wp2_with fail
  refine (class_S z _).mono ?_
  rintro e w2 ⟨rfl, hb3⟩
  go_wp2
  go_ret2
  exact ⟨rfl, below_chain (below_chain hb1 hb2) hb3⟩

set_option maxRecDepth 100000 in
theorem finite_S (b : Nat) (hb : b < 4294967296) (hfin : b % 2147483648 < 2139095040) (w : World) : Calls Tryz.prog 46 #[.int .i64 32, .int .u64 (b : Int)] w fun e w' => e = .returned (.tuple #[.agg #[.int .i64 32, .int .i64 24, .int .i64 (-149), .int .u64 2143289345], .bool (decide (2147483648 ≤ b)), .int .u64 ((b % 2147483648 : Nat) : Int), .int .i64 0]) ∧ Below w.heap.size w w' := by
  have hb0 := below_alloc' w (.cells #[.int .i64 0, .int .i64 0, .int .i64 0, .int .u64 0] 78)
  have h0 : Box4 (w.alloc (.cells #[.int .i64 0, .int .i64 0, .int .i64 0, .int .u64 0] 78)) w.heap.size (.int .i64 0) (.int .i64 0) (.int .i64 0) (.int .u64 0) := ⟨by simp, by simp, by simp, by simp, by simp, by simp, by simp, by simp, by simp⟩
  obtain ⟨neg, hneg⟩ : ∃ neg, decide (2147483648 ≤ b) = neg := ⟨_, rfl⟩
  obtain ⟨z, hz⟩ : ∃ z, b % 2147483648 = z := ⟨_, rfl⟩
  have HN := Lib.hid hneg
  have HZ := Lib.hid hz
  rw [hneg, hz]
  rw [hz] at hfin
  obtain ⟨nf, hnf⟩ : ∃ nf : Int, (2139095040 : Int) = nf := ⟨_, rfl⟩
  have HNF := Lib.hid hnf
  have hl : (z : Int) < nf := by omega
  clear hneg hz hfin hnf
  go_enter Tryz.func46, Tryz.ntmps46
  go_wp2_with fail
  refine (take_ok_S b hb _).mono ?_
  rintro e w1 ⟨rfl, hb1⟩
  have h1 := h0.below hb1
  rw [HN.out, HZ.out]
  clear hb h0 HN HZ
  have hb2 := below_alloc' w1 (.cells #[.int .i64 32, .int .i64 24, .int .i64 (-149), .int .u64 2143289345] 78)
  have h2 := h1.below hb2
  have HW2 := Lib.hid (below_chain (below_chain hb0 hb1) hb2)
  have H2 := Lib.hid h2
  clear hb0 hb1 hb2 h1 h2
  go_wp2_with fail
  refine (sinf_S _).mono ?_
  rintro e w2 ⟨rfl, hb3⟩
  rw [HNF.out]
  obtain ⟨a0, a1, a2, a3, f0, f1, f2, f3, hs⟩ := H2.out.below hb3
  have y0 : w2.cell? ⟨w1.heap.size, 0, none⟩ = some (.int .i64 32) := cell_kept hb3 (by simp)
  have y1 : w2.cell? ⟨w1.heap.size, 1, none⟩ = some (.int .i64 24) := cell_kept hb3 (by simp)
  have y2 : w2.cell? ⟨w1.heap.size, 2, none⟩ = some (.int .i64 (-149)) := cell_kept hb3 (by simp)
  have y3 : w2.cell? ⟨w1.heap.size, 3, none⟩ = some (.int .u64 2143289345) := cell_kept hb3 (by simp)
  have HW := Lib.hid (below_chain HW2.out hb3)
  clear hb3
  go_wp2
  have r0 : ((((w2.setCell ⟨w.heap.size, 0, none⟩ (.int .i64 32)).setCell ⟨w.heap.size, 1, none⟩ (.int .i64 24)).setCell ⟨w.heap.size, 2, none⟩ (.int .i64 (-149))).setCell ⟨w.heap.size, 3, none⟩ (.int .u64 2143289345)).cell? ⟨w.heap.size, 0, none⟩ = some (.int .i64 32) := by
    rw [cell_other (by simp), cell_other (by simp), cell_other (by simp)]; exact World.cell?_setCell_same' _ _ _ (by rw [a0]; rfl)
  have r1 : ((((w2.setCell ⟨w.heap.size, 0, none⟩ (.int .i64 32)).setCell ⟨w.heap.size, 1, none⟩ (.int .i64 24)).setCell ⟨w.heap.size, 2, none⟩ (.int .i64 (-149))).setCell ⟨w.heap.size, 3, none⟩ (.int .u64 2143289345)).cell? ⟨w.heap.size, 1, none⟩ = some (.int .i64 24) := by
    rw [cell_other (by simp), cell_other (by simp)]; exact World.cell?_setCell_same' _ _ _ (by rw [cell_other (by simp), a1]; rfl)
  have r2 : ((((w2.setCell ⟨w.heap.size, 0, none⟩ (.int .i64 32)).setCell ⟨w.heap.size, 1, none⟩ (.int .i64 24)).setCell ⟨w.heap.size, 2, none⟩ (.int .i64 (-149))).setCell ⟨w.heap.size, 3, none⟩ (.int .u64 2143289345)).cell? ⟨w.heap.size, 2, none⟩ = some (.int .i64 (-149)) := by
    rw [cell_other (by simp)]; exact World.cell?_setCell_same' _ _ _ (by rw [cell_other (by simp), cell_other (by simp), a2]; rfl)
  have r3 : ((((w2.setCell ⟨w.heap.size, 0, none⟩ (.int .i64 32)).setCell ⟨w.heap.size, 1, none⟩ (.int .i64 24)).setCell ⟨w.heap.size, 2, none⟩ (.int .i64 (-149))).setCell ⟨w.heap.size, 3, none⟩ (.int .u64 2143289345)).cell? ⟨w.heap.size, 3, none⟩ = some (.int .u64 2143289345) := by
    exact World.cell?_setCell_same' _ _ _ (by rw [cell_other (by simp), cell_other (by simp), cell_other (by simp), a3]; rfl)
  refine bodyPost_ret (v := .tuple #[.agg #[.int .i64 32, .int .i64 24, .int .i64 (-149), .int .u64 2143289345], .bool neg, .int .u64 (z : Int), .int .i64 0]) (by simp [results, Tryz.results46, go_sem, r0, r1, r2, r3]) rfl ⟨rfl, ?_⟩
  exact (((HW.out.setCell (by simp) _).setCell (by simp) _).setCell (by simp) _).setCell (by simp) _

set_option maxRecDepth 100000 in
theorem classOf_D (b : Nat) (hb : b < 18446744073709551616) (w : World) : Calls Tryz.prog 16 #[.int .i64 64, .int .u64 (b : Int)] w fun e w' => e = .returned (.tuple #[.int .i64 ((clsN 4503599627370496 9218868437227405312 (b % 9223372036854775808) : Nat) : Int), .int .i64 0]) ∧ Below w.heap.size w w' := by
  obtain ⟨neg, hneg⟩ : ∃ neg, decide (9223372036854775808 ≤ b) = neg := ⟨_, rfl⟩
  obtain ⟨z, hz⟩ : ∃ z, b % 9223372036854775808 = z := ⟨_, rfl⟩
  have HN := Lib.hid hneg
  have HZ := Lib.hid hz
  rw [hz]
  clear hneg hz
  go_enter Tryz.func16, Tryz.ntmps16
  go_wp2_with fail
  refine (take_ok_D b hb _).mono ?_
  rintro e w1 ⟨rfl, hb1⟩
  rw [HN.out, HZ.out]
  clear hb HN HZ
  have hb2 := below_alloc' w1 (.cells #[.int .i64 64, .int .i64 53, .int .i64 (-1074), .int .u64 9221120237041090561] 78)
  go_wp2_with fail
  refine (class_D z _).mono ?_
  rintro e w2 ⟨rfl, hb3⟩
  go_wp2
  go_ret2
  exact ⟨rfl, below_chain (below_chain hb1 hb2) hb3⟩

set_option maxRecDepth 100000 in
theorem finite_D (b : Nat) (hb : b < 18446744073709551616) (hfin : b % 9223372036854775808 < 9218868437227405312) (w : World) : Calls Tryz.prog 46 #[.int .i64 64, .int .u64 (b : Int)] w fun e w' => e = .returned (.tuple #[.agg #[.int .i64 64, .int .i64 53, .int .i64 (-1074), .int .u64 9221120237041090561], .bool (decide (9223372036854775808 ≤ b)), .int .u64 ((b % 9223372036854775808 : Nat) : Int), .int .i64 0]) ∧ Below w.heap.size w w' := by
  have hb0 := below_alloc' w (.cells #[.int .i64 0, .int .i64 0, .int .i64 0, .int .u64 0] 78)
  have h0 : Box4 (w.alloc (.cells #[.int .i64 0, .int .i64 0, .int .i64 0, .int .u64 0] 78)) w.heap.size (.int .i64 0) (.int .i64 0) (.int .i64 0) (.int .u64 0) := ⟨by simp, by simp, by simp, by simp, by simp, by simp, by simp, by simp, by simp⟩
  obtain ⟨neg, hneg⟩ : ∃ neg, decide (9223372036854775808 ≤ b) = neg := ⟨_, rfl⟩
  obtain ⟨z, hz⟩ : ∃ z, b % 9223372036854775808 = z := ⟨_, rfl⟩
  have HN := Lib.hid hneg
  have HZ := Lib.hid hz
  rw [hneg, hz]
  rw [hz] at hfin
  obtain ⟨nf, hnf⟩ : ∃ nf : Int, (9218868437227405312 : Int) = nf := ⟨_, rfl⟩
  have HNF := Lib.hid hnf
  have hl : (z : Int) < nf := by omega
  clear hneg hz hfin hnf
  go_enter Tryz.func46, Tryz.ntmps46
  go_wp2_with fail
  refine (take_ok_D b hb _).mono ?_
  rintro e w1 ⟨rfl, hb1⟩
  have h1 := h0.below hb1
  rw [HN.out, HZ.out]
  clear hb h0 HN HZ
  have hb2 := below_alloc' w1 (.cells #[.int .i64 64, .int .i64 53, .int .i64 (-1074), .int .u64 9221120237041090561] 78)
  have h2 := h1.below hb2
  have HW2 := Lib.hid (below_chain (below_chain hb0 hb1) hb2)
  have H2 := Lib.hid h2
  clear hb0 hb1 hb2 h1 h2
  go_wp2_with fail
  refine (sinf_D _).mono ?_
  rintro e w2 ⟨rfl, hb3⟩
  rw [HNF.out]
  obtain ⟨a0, a1, a2, a3, f0, f1, f2, f3, hs⟩ := H2.out.below hb3
  have y0 : w2.cell? ⟨w1.heap.size, 0, none⟩ = some (.int .i64 64) := cell_kept hb3 (by simp)
  have y1 : w2.cell? ⟨w1.heap.size, 1, none⟩ = some (.int .i64 53) := cell_kept hb3 (by simp)
  have y2 : w2.cell? ⟨w1.heap.size, 2, none⟩ = some (.int .i64 (-1074)) := cell_kept hb3 (by simp)
  have y3 : w2.cell? ⟨w1.heap.size, 3, none⟩ = some (.int .u64 9221120237041090561) := cell_kept hb3 (by simp)
  have HW := Lib.hid (below_chain HW2.out hb3)
  clear hb3
  go_wp2
  have r0 : ((((w2.setCell ⟨w.heap.size, 0, none⟩ (.int .i64 64)).setCell ⟨w.heap.size, 1, none⟩ (.int .i64 53)).setCell ⟨w.heap.size, 2, none⟩ (.int .i64 (-1074))).setCell ⟨w.heap.size, 3, none⟩ (.int .u64 9221120237041090561)).cell? ⟨w.heap.size, 0, none⟩ = some (.int .i64 64) := by
    rw [cell_other (by simp), cell_other (by simp), cell_other (by simp)]; exact World.cell?_setCell_same' _ _ _ (by rw [a0]; rfl)
  have r1 : ((((w2.setCell ⟨w.heap.size, 0, none⟩ (.int .i64 64)).setCell ⟨w.heap.size, 1, none⟩ (.int .i64 53)).setCell ⟨w.heap.size, 2, none⟩ (.int .i64 (-1074))).setCell ⟨w.heap.size, 3, none⟩ (.int .u64 9221120237041090561)).cell? ⟨w.heap.size, 1, none⟩ = some (.int .i64 53) := by
    rw [cell_other (by simp), cell_other (by simp)]; exact World.cell?_setCell_same' _ _ _ (by rw [cell_other (by simp), a1]; rfl)
  have r2 : ((((w2.setCell ⟨w.heap.size, 0, none⟩ (.int .i64 64)).setCell ⟨w.heap.size, 1, none⟩ (.int .i64 53)).setCell ⟨w.heap.size, 2, none⟩ (.int .i64 (-1074))).setCell ⟨w.heap.size, 3, none⟩ (.int .u64 9221120237041090561)).cell? ⟨w.heap.size, 2, none⟩ = some (.int .i64 (-1074)) := by
    rw [cell_other (by simp)]; exact World.cell?_setCell_same' _ _ _ (by rw [cell_other (by simp), cell_other (by simp), a2]; rfl)
  have r3 : ((((w2.setCell ⟨w.heap.size, 0, none⟩ (.int .i64 64)).setCell ⟨w.heap.size, 1, none⟩ (.int .i64 53)).setCell ⟨w.heap.size, 2, none⟩ (.int .i64 (-1074))).setCell ⟨w.heap.size, 3, none⟩ (.int .u64 9221120237041090561)).cell? ⟨w.heap.size, 3, none⟩ = some (.int .u64 9221120237041090561) := by
    exact World.cell?_setCell_same' _ _ _ (by rw [cell_other (by simp), cell_other (by simp), cell_other (by simp), a3]; rfl)
  refine bodyPost_ret (v := .tuple #[.agg #[.int .i64 64, .int .i64 53, .int .i64 (-1074), .int .u64 9221120237041090561], .bool neg, .int .u64 (z : Int), .int .i64 0]) (by simp [results, Tryz.results46, go_sem, r0, r1, r2, r3]) rfl ⟨rfl, ?_⟩
  exact (((HW.out.setCell (by simp) _).setCell (by simp) _).setCell (by simp) _).setCell (by simp) _

end Go.Proofs.YtibjogbalmbeeaaGreatDoor
