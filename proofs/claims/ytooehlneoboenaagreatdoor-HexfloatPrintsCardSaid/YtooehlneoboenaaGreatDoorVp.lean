/- Walks of gnomonref07: Of, Check, Cut, Parts (printed by gen_r07.py). -/
import Derived.Test.YtooehlneoboenaaGreatDoorBd
namespace Go.Proofs.YtooehlneoboenaaGreatDoor
open Go.RowKit

/-- A format's numbers, as gnomonref07 has them. -/
def foS : Value := .agg #[.int .u64 2147483648, .int .i64 24, .int .i64 (-149), .int .i64 104, .int .u64 2139095040, .int .u64 2143289345]
def foD : Value := .agg #[.int .u64 9223372036854775808, .int .i64 53, .int .i64 (-1074), .int .i64 971, .int .u64 9218868437227405312, .int .u64 9221120237041090561]
def foZ : Value := .agg #[.int .u64 0, .int .i64 0, .int .i64 0, .int .i64 0, .int .u64 0, .int .u64 0]

theorem six_set {W : World} {g : Nat} {x0 x1 x2 x3 x4 x5 : Value} (g0 : W.cell? ⟨g, 0, none⟩ = some x0) (g1 : W.cell? ⟨g, 1, none⟩ = some x1) (g2 : W.cell? ⟨g, 2, none⟩ = some x2) (g3 : W.cell? ⟨g, 3, none⟩ = some x3) (g4 : W.cell? ⟨g, 4, none⟩ = some x4) (g5 : W.cell? ⟨g, 5, none⟩ = some x5) (v0 v1 v2 v3 v4 v5 : Value) :
    ∃ X, X = ((((((W.setCell ⟨g, 0, none⟩ v0).setCell ⟨g, 1, none⟩ v1).setCell ⟨g, 2, none⟩ v2).setCell ⟨g, 3, none⟩ v3).setCell ⟨g, 4, none⟩ v4).setCell ⟨g, 5, none⟩ v5) ∧
    X.cell? ⟨g, 0, none⟩ = some v0 ∧ X.cell? ⟨g, 1, none⟩ = some v1 ∧ X.cell? ⟨g, 2, none⟩ = some v2 ∧ X.cell? ⟨g, 3, none⟩ = some v3 ∧ X.cell? ⟨g, 4, none⟩ = some v4 ∧ X.cell? ⟨g, 5, none⟩ = some v5 := by
  refine ⟨_, rfl, ?_, ?_, ?_, ?_, ?_, ?_⟩
  · rw [cell_other (by simp), cell_other (by simp), cell_other (by simp), cell_other (by simp), cell_other (by simp)]; exact World.cell?_setCell_same' _ _ _ (by rw [g0]; rfl)
  · rw [cell_other (by simp), cell_other (by simp), cell_other (by simp), cell_other (by simp)]; exact World.cell?_setCell_same' _ _ _ (by rw [cell_other (by simp), g1]; rfl)
  · rw [cell_other (by simp), cell_other (by simp), cell_other (by simp)]; exact World.cell?_setCell_same' _ _ _ (by rw [cell_other (by simp), cell_other (by simp), g2]; rfl)
  · rw [cell_other (by simp), cell_other (by simp)]; exact World.cell?_setCell_same' _ _ _ (by rw [cell_other (by simp), cell_other (by simp), cell_other (by simp), g3]; rfl)
  · rw [cell_other (by simp)]; exact World.cell?_setCell_same' _ _ _ (by rw [cell_other (by simp), cell_other (by simp), cell_other (by simp), cell_other (by simp), g4]; rfl)
  · exact World.cell?_setCell_same' _ _ _ (by rw [cell_other (by simp), cell_other (by simp), cell_other (by simp), cell_other (by simp), cell_other (by simp), g5]; rfl)
theorem box6_new (w : World) (v0 v1 v2 v3 v4 v5 : Value) (t : TypeId) : ∃ W, W = w.alloc (.cells #[v0, v1, v2, v3, v4, v5] t) ∧ W.heap.size = w.heap.size + 1 ∧ W.cell? ⟨w.heap.size, 0, none⟩ = some v0 ∧ W.cell? ⟨w.heap.size, 1, none⟩ = some v1 ∧ W.cell? ⟨w.heap.size, 2, none⟩ = some v2 ∧ W.cell? ⟨w.heap.size, 3, none⟩ = some v3 ∧ W.cell? ⟨w.heap.size, 4, none⟩ = some v4 ∧ W.cell? ⟨w.heap.size, 5, none⟩ = some v5 ∧
    W.frozen? ⟨w.heap.size, 0, none⟩ = false ∧ W.frozen? ⟨w.heap.size, 1, none⟩ = false ∧ W.frozen? ⟨w.heap.size, 2, none⟩ = false ∧ W.frozen? ⟨w.heap.size, 3, none⟩ = false ∧ W.frozen? ⟨w.heap.size, 4, none⟩ = false ∧ W.frozen? ⟨w.heap.size, 5, none⟩ = false :=
  ⟨_, rfl, by simp, by simp, by simp, by simp, by simp, by simp, by simp, by simp, by simp, by simp, by simp, by simp, by simp⟩

set_option maxRecDepth 100000 in
set_option maxHeartbeats 1000000 in
theorem rof07_S (w : World) : Calls Tryz.prog 20 #[.int .i64 32] w fun e w' => e = .returned (.tuple #[.agg #[.int .u64 2147483648, .int .i64 24, .int .i64 (-149), .int .i64 104, .int .u64 2139095040, .int .u64 2143289345], .bool true]) ∧ Below w.heap.size w w' := by
  go_enter Tryz.func20, Tryz.ntmps20
  go_wp2
  obtain ⟨X, hX, hz, r0, r1, r2, r3, r4, r5, _⟩ := box6_new w (.int .u64 2147483648) (.int .i64 24) (.int .i64 (-149)) (.int .i64 104) (.int .u64 2139095040) (.int .u64 2143289345) 58
  have hBX := below_alloc' w (.cells #[.int .u64 2147483648, .int .i64 24, .int .i64 (-149), .int .i64 104, .int .u64 2139095040, .int .u64 2143289345] 58)
  rw [← hX] at hBX ⊢
  clear hX
  exact bodyPost_ret (v := .tuple #[.agg #[.int .u64 2147483648, .int .i64 24, .int .i64 (-149), .int .i64 104, .int .u64 2139095040, .int .u64 2143289345], .bool true]) (by simp [results, Tryz.results20, go_sem, r0, r1, r2, r3, r4, r5]) rfl ⟨rfl, hBX⟩

set_option maxRecDepth 100000 in
set_option maxHeartbeats 1000000 in
theorem rof07_D (w : World) : Calls Tryz.prog 20 #[.int .i64 64] w fun e w' => e = .returned (.tuple #[.agg #[.int .u64 9223372036854775808, .int .i64 53, .int .i64 (-1074), .int .i64 971, .int .u64 9218868437227405312, .int .u64 9221120237041090561], .bool true]) ∧ Below w.heap.size w w' := by
  go_enter Tryz.func20, Tryz.ntmps20
  go_wp2
  obtain ⟨X, hX, hz, r0, r1, r2, r3, r4, r5, _⟩ := box6_new w (.int .u64 9223372036854775808) (.int .i64 53) (.int .i64 (-1074)) (.int .i64 971) (.int .u64 9218868437227405312) (.int .u64 9221120237041090561) 58
  have hBX := below_alloc' w (.cells #[.int .u64 9223372036854775808, .int .i64 53, .int .i64 (-1074), .int .i64 971, .int .u64 9218868437227405312, .int .u64 9221120237041090561] 58)
  rw [← hX] at hBX ⊢
  clear hX
  exact bodyPost_ret (v := .tuple #[.agg #[.int .u64 9223372036854775808, .int .i64 53, .int .i64 (-1074), .int .i64 971, .int .u64 9218868437227405312, .int .u64 9221120237041090561], .bool true]) (by simp [results, Tryz.results20, go_sem, r0, r1, r2, r3, r4, r5]) rfl ⟨rfl, hBX⟩

set_option maxRecDepth 100000 in
set_option maxHeartbeats 1000000 in
theorem rof07_no (f : Int) (h1 : f ≠ 32) (h2 : f ≠ 64) (w : World) : Calls Tryz.prog 20 #[.int .i64 f] w fun e w' => e = .returned (.tuple #[.agg #[.int .u64 0, .int .i64 0, .int .i64 0, .int .i64 0, .int .u64 0, .int .u64 0], .bool false]) ∧ Below w.heap.size w w' := by
  obtain ⟨e1, e2⟩ := no_fmt h1 h2
  go_enter Tryz.func20, Tryz.ntmps20
  go_wp2
  obtain ⟨X, hX, hz, r0, r1, r2, r3, r4, r5, _⟩ := box6_new w (.int .u64 0) (.int .i64 0) (.int .i64 0) (.int .i64 0) (.int .u64 0) (.int .u64 0) 58
  have hBX := below_alloc' w (.cells #[.int .u64 0, .int .i64 0, .int .i64 0, .int .i64 0, .int .u64 0, .int .u64 0] 58)
  rw [← hX] at hBX ⊢
  clear hX
  exact bodyPost_ret (v := .tuple #[.agg #[.int .u64 0, .int .i64 0, .int .i64 0, .int .i64 0, .int .u64 0, .int .u64 0], .bool false]) (by simp [results, Tryz.results20, go_sem, r0, r1, r2, r3, r4, r5]) rfl ⟨rfl, hBX⟩

set_option maxRecDepth 100000 in
theorem rcut_S (b : Nat) (hb : b < 18446744073709551616) (w : World) : Calls Tryz.prog 25 #[.agg #[.int .u64 2147483648, .int .i64 24, .int .i64 (-149), .int .i64 104, .int .u64 2139095040, .int .u64 2143289345], .int .u64 (b : Int)] w fun e w' => e = .returned (.tuple #[.bool (decide (2147483648 ≤ b)), .int .u64 ((b % 2147483648 : Nat) : Int)]) ∧ Below w.heap.size w w' := by
  have hw := below_alloc' w (.cells #[.int .u64 2147483648, .int .i64 24, .int .i64 (-149), .int .i64 104, .int .u64 2139095040, .int .u64 2143289345] 58)
  have e1 : decide ((2147483648 : Int) ≤ (b : Int)) = decide (2147483648 ≤ b) := by rw [decide_eq_decide]; omega
  have e2 : (b : Int) % 2147483648 = ((b % 2147483648 : Nat) : Int) := by omega
  have HE1 := Lib.hid e1
  have HE2 := Lib.hid e2
  clear e1 e2 hb
  go_enter Tryz.func25, Tryz.ntmps25
  go_wp2_with fail
  go_quiet (fail)
  go_wp2
  go_ret2
  exact ⟨by rw [← HE1.out, ← HE2.out]; rfl, below_dn hw _⟩

set_option maxRecDepth 100000 in
theorem rcut_D (b : Nat) (hb : b < 18446744073709551616) (w : World) : Calls Tryz.prog 25 #[.agg #[.int .u64 9223372036854775808, .int .i64 53, .int .i64 (-1074), .int .i64 971, .int .u64 9218868437227405312, .int .u64 9221120237041090561], .int .u64 (b : Int)] w fun e w' => e = .returned (.tuple #[.bool (decide (9223372036854775808 ≤ b)), .int .u64 ((b % 9223372036854775808 : Nat) : Int)]) ∧ Below w.heap.size w w' := by
  have hw := below_alloc' w (.cells #[.int .u64 9223372036854775808, .int .i64 53, .int .i64 (-1074), .int .i64 971, .int .u64 9218868437227405312, .int .u64 9221120237041090561] 58)
  have e1 : decide ((9223372036854775808 : Int) ≤ (b : Int)) = decide (9223372036854775808 ≤ b) := by rw [decide_eq_decide]; omega
  have e2 : (b : Int) % 9223372036854775808 = ((b % 9223372036854775808 : Nat) : Int) := by omega
  have HE1 := Lib.hid e1
  have HE2 := Lib.hid e2
  clear e1 e2 hb
  go_enter Tryz.func25, Tryz.ntmps25
  go_wp2_with fail
  go_quiet (fail)
  go_wp2
  go_ret2
  exact ⟨by rw [← HE1.out, ← HE2.out]; rfl, below_dn hw _⟩
end Go.Proofs.YtooehlneoboenaaGreatDoor
