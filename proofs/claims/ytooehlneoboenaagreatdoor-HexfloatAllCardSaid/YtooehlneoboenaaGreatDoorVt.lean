/- Walks of gnomonref07: Of, Check, Cut, Parts (printed by gen_r07.py). · Walks of gnomonref07: Check, Parts (printed by gen_r07b.py). · Walks of gnomonref07: Size, Whole (printed by gen_r07c.py). -/
import Derived.Test.YtooehlneoboenaaGreatDoorBd
import Derived.Test.YtooehlneoboenaaGreatDoorVl
import Derived.Test.YtooehlneoboenaaGreatDoorTh
namespace Go.Proofs.YtooehlneoboenaaGreatDoor
open Go.RowKit

/-- A format's numbers, as gnomonref07 has them. -/
def foS : Value := .agg #[.int .u64 2147483648, .int .i64 24, .int .i64 (-149), .int .i64 104, .int .u64 2139095040, .int .u64 2143289345]
def foD : Value := .agg #[.int .u64 9223372036854775808, .int .i64 53, .int .i64 (-1074), .int .i64 971, .int .u64 9218868437227405312, .int .u64 9221120237041090561]
def foZ : Value := .agg #[.int .u64 0, .int .i64 0, .int .i64 0, .int .i64 0, .int .u64 0, .int .u64 0]

theorem six_set {W : World} {g : Nat} {x0 x1 x2 x3 x4 x5 : Value} (g0 : W.cell? ⟨g, 0, none⟩ = some x0) (g1 : W.cell? ⟨g, 1, none⟩ = some x1) (g2 : W.cell? ⟨g, 2, none⟩ = some x2) (g3 : W.cell? ⟨g, 3, none⟩ = some x3) (g4 : W.cell? ⟨g, 4, none⟩ = some x4) (g5 : W.cell? ⟨g, 5, none⟩ = some x5) (v0 v1 v2 v3 v4 v5 : Value) :
    ∃ X, X = ((((((W.setCell ⟨g, 0, none⟩ v0).setCell ⟨g, 1, none⟩ v1).setCell ⟨g, 2, none⟩ v2).setCell ⟨g, 3, none⟩ v3).setCell ⟨g, 4, none⟩ v4).setCell ⟨g, 5, none⟩ v5) ∧
    X.cell? ⟨g, 0, none⟩ = some v0 ∧ X.cell? ⟨g, 1, none⟩ = some v1 ∧ X.cell? ⟨g, 2, none⟩ = some v2 ∧ X.cell? ⟨g, 3, none⟩ = some v3 ∧ X.cell? ⟨g, 4, none⟩ = some v4 ∧ X.cell? ⟨g, 5, none⟩ = some v5 := by
  refine ⟨_, rfl, ?_, ?_, ?_, ?_, ?_, ?_⟩
  · rw [cell_other (by simp), cell_other (by simp), cell_other (by simp), cell_other (by simp), cell_other (by simp)]; exact World.cell?_setCell_same' _ _ _ (by rw [g0]; rfl)
  · rw [cell_other (by simp), cell_other (by simp), cell_other (by simp), cell_other (by simp)]; exact World.cell?_setCell_same' _ _ _ (by rw [cell_other (by simp), g1]; rfl)
  · rw [cell_other (by simp), cell_other (by simp), cell_other (by simp)]; exact World.cell?_setCell_same' _ _ _ (by rw [cell_other (by simp), cell_other (by simp), g2]; rfl)
  · rw [cell_other (by simp), cell_other (by simp)]; exact World.cell?_setCell_same' _ _ _ (by rw [cell_other (by simp), cell_other (by simp), cell_other (by simp), g3]; rfl)
  · rw [cell_other (by simp)]; exact World.cell?_setCell_same' _ _ _ (by rw [cell_other (by simp), cell_other (by simp), cell_other (by simp), cell_other (by simp), g4]; rfl)
  · exact World.cell?_setCell_same' _ _ _ (by rw [cell_other (by simp), cell_other (by simp), cell_other (by simp), cell_other (by simp), cell_other (by simp), g5]; rfl)
theorem box6_new (w : World) (v0 v1 v2 v3 v4 v5 : Value) (t : TypeId) : ∃ W, W = w.alloc (.cells #[v0, v1, v2, v3, v4, v5] t) ∧ W.heap.size = w.heap.size + 1 ∧ W.cell? ⟨w.heap.size, 0, none⟩ = some v0 ∧ W.cell? ⟨w.heap.size, 1, none⟩ = some v1 ∧ W.cell? ⟨w.heap.size, 2, none⟩ = some v2 ∧ W.cell? ⟨w.heap.size, 3, none⟩ = some v3 ∧ W.cell? ⟨w.heap.size, 4, none⟩ = some v4 ∧ W.cell? ⟨w.heap.size, 5, none⟩ = some v5 ∧
    W.frozen? ⟨w.heap.size, 0, none⟩ = false ∧ W.frozen? ⟨w.heap.size, 1, none⟩ = false ∧ W.frozen? ⟨w.heap.size, 2, none⟩ = false ∧ W.frozen? ⟨w.heap.size, 3, none⟩ = false ∧ W.frozen? ⟨w.heap.size, 4, none⟩ = false ∧ W.frozen? ⟨w.heap.size, 5, none⟩ = false :=
  ⟨_, rfl, by simp, by simp, by simp, by simp, by simp, by simp, by simp, by simp, by simp, by simp, by simp, by simp, by simp⟩

set_option maxRecDepth 100000 in
set_option maxHeartbeats 1000000 in
theorem rof07_S (w : World) : Calls Tryz.prog 20 #[.int .i64 32] w fun e w' => e = .returned (.tuple #[.agg #[.int .u64 2147483648, .int .i64 24, .int .i64 (-149), .int .i64 104, .int .u64 2139095040, .int .u64 2143289345], .bool true]) ∧ Below w.heap.size w w' := by
  go_enter Tryz.func20, Tryz.ntmps20
  go_wp2
  obtain ⟨X, hX, hz, r0, r1, r2, r3, r4, r5, _⟩ := box6_new w (.int .u64 2147483648) (.int .i64 24) (.int .i64 (-149)) (.int .i64 104) (.int .u64 2139095040) (.int .u64 2143289345) 58
  have hBX := below_alloc' w (.cells #[.int .u64 2147483648, .int .i64 24, .int .i64 (-149), .int .i64 104, .int .u64 2139095040, .int .u64 2143289345] 58)
  rw [← hX] at hBX ⊢
  clear hX
  exact bodyPost_ret (v := .tuple #[.agg #[.int .u64 2147483648, .int .i64 24, .int .i64 (-149), .int .i64 104, .int .u64 2139095040, .int .u64 2143289345], .bool true]) (by simp [results, Tryz.results20, go_sem, r0, r1, r2, r3, r4, r5]) rfl ⟨rfl, hBX⟩

set_option maxRecDepth 100000 in
set_option maxHeartbeats 1000000 in
theorem rof07_D (w : World) : Calls Tryz.prog 20 #[.int .i64 64] w fun e w' => e = .returned (.tuple #[.agg #[.int .u64 9223372036854775808, .int .i64 53, .int .i64 (-1074), .int .i64 971, .int .u64 9218868437227405312, .int .u64 9221120237041090561], .bool true]) ∧ Below w.heap.size w w' := by
  go_enter Tryz.func20, Tryz.ntmps20
  go_wp2
  obtain ⟨X, hX, hz, r0, r1, r2, r3, r4, r5, _⟩ := box6_new w (.int .u64 9223372036854775808) (.int .i64 53) (.int .i64 (-1074)) (.int .i64 971) (.int .u64 9218868437227405312) (.int .u64 9221120237041090561) 58
  have hBX := below_alloc' w (.cells #[.int .u64 9223372036854775808, .int .i64 53, .int .i64 (-1074), .int .i64 971, .int .u64 9218868437227405312, .int .u64 9221120237041090561] 58)
  rw [← hX] at hBX ⊢
  clear hX
  exact bodyPost_ret (v := .tuple #[.agg #[.int .u64 9223372036854775808, .int .i64 53, .int .i64 (-1074), .int .i64 971, .int .u64 9218868437227405312, .int .u64 9221120237041090561], .bool true]) (by simp [results, Tryz.results20, go_sem, r0, r1, r2, r3, r4, r5]) rfl ⟨rfl, hBX⟩

set_option maxRecDepth 100000 in
set_option maxHeartbeats 1000000 in
theorem rof07_no (f : Int) (h1 : f ≠ 32) (h2 : f ≠ 64) (w : World) : Calls Tryz.prog 20 #[.int .i64 f] w fun e w' => e = .returned (.tuple #[.agg #[.int .u64 0, .int .i64 0, .int .i64 0, .int .i64 0, .int .u64 0, .int .u64 0], .bool false]) ∧ Below w.heap.size w w' := by
  obtain ⟨e1, e2⟩ := no_fmt h1 h2
  go_enter Tryz.func20, Tryz.ntmps20
  go_wp2
  obtain ⟨X, hX, hz, r0, r1, r2, r3, r4, r5, _⟩ := box6_new w (.int .u64 0) (.int .i64 0) (.int .i64 0) (.int .i64 0) (.int .u64 0) (.int .u64 0) 58
  have hBX := below_alloc' w (.cells #[.int .u64 0, .int .i64 0, .int .i64 0, .int .i64 0, .int .u64 0, .int .u64 0] 58)
  rw [← hX] at hBX ⊢
  clear hX
  exact bodyPost_ret (v := .tuple #[.agg #[.int .u64 0, .int .i64 0, .int .i64 0, .int .i64 0, .int .u64 0, .int .u64 0], .bool false]) (by simp [results, Tryz.results20, go_sem, r0, r1, r2, r3, r4, r5]) rfl ⟨rfl, hBX⟩

set_option maxRecDepth 100000 in
theorem rcut_S (b : Nat) (hb : b < 18446744073709551616) (w : World) : Calls Tryz.prog 25 #[.agg #[.int .u64 2147483648, .int .i64 24, .int .i64 (-149), .int .i64 104, .int .u64 2139095040, .int .u64 2143289345], .int .u64 (b : Int)] w fun e w' => e = .returned (.tuple #[.bool (decide (2147483648 ≤ b)), .int .u64 ((b % 2147483648 : Nat) : Int)]) ∧ Below w.heap.size w w' := by
  have hw := below_alloc' w (.cells #[.int .u64 2147483648, .int .i64 24, .int .i64 (-149), .int .i64 104, .int .u64 2139095040, .int .u64 2143289345] 58)
  have e1 : decide ((2147483648 : Int) ≤ (b : Int)) = decide (2147483648 ≤ b) := by rw [decide_eq_decide]; omega
  have e2 : (b : Int) % 2147483648 = ((b % 2147483648 : Nat) : Int) := by omega
  have HE1 := Lib.hid e1
  have HE2 := Lib.hid e2
  clear e1 e2 hb
  go_enter Tryz.func25, Tryz.ntmps25
  go_wp2_with fail
  go_quiet (fail)
  go_wp2
  go_ret2
  exact ⟨by rw [← HE1.out, ← HE2.out]; rfl, below_dn hw _⟩

set_option maxRecDepth 100000 in
theorem rcut_D (b : Nat) (hb : b < 18446744073709551616) (w : World) : Calls Tryz.prog 25 #[.agg #[.int .u64 9223372036854775808, .int .i64 53, .int .i64 (-1074), .int .i64 971, .int .u64 9218868437227405312, .int .u64 9221120237041090561], .int .u64 (b : Int)] w fun e w' => e = .returned (.tuple #[.bool (decide (9223372036854775808 ≤ b)), .int .u64 ((b % 9223372036854775808 : Nat) : Int)]) ∧ Below w.heap.size w w' := by
  have hw := below_alloc' w (.cells #[.int .u64 9223372036854775808, .int .i64 53, .int .i64 (-1074), .int .i64 971, .int .u64 9218868437227405312, .int .u64 9221120237041090561] 58)
  have e1 : decide ((9223372036854775808 : Int) ≤ (b : Int)) = decide (9223372036854775808 ≤ b) := by rw [decide_eq_decide]; omega
  have e2 : (b : Int) % 9223372036854775808 = ((b % 9223372036854775808 : Nat) : Int) := by omega
  have HE1 := Lib.hid e1
  have HE2 := Lib.hid e2
  clear e1 e2 hb
  go_enter Tryz.func25, Tryz.ntmps25
  go_wp2_with fail
  go_quiet (fail)
  go_wp2
  go_ret2
  exact ⟨by rw [← HE1.out, ← HE2.out]; rfl, below_dn hw _⟩
end Go.Proofs.YtooehlneoboenaaGreatDoor

namespace Go.Proofs.YtooehlneoboenaaGreatDoor
open Go.RowKit

set_option maxRecDepth 100000 in
theorem rchk_S (b : Nat) (hb : b < 4294967296) (w : World) : Calls Tryz.prog 24 #[.int .i64 32, .int .u64 (b : Int)] w fun e w' => e = .returned (.int .i64 0) ∧ Below w.heap.size w w' := by
  obtain ⟨sg, hsg⟩ : ∃ sg : Int, (2147483648 : Int) = sg := ⟨_, rfl⟩
  have h : (b : Int) / 2 < sg := by omega
  have hOf := rof07_S
  simp only [hsg] at hOf
  have HOf := Lib.hid hOf
  have hwr : IntKind.u64.wrap ((b : Int) / 2) = (b : Int) / 2 := by rw [IntKind.wrap_u64]; omega
  clear hb hsg hOf
  go_enter Tryz.func24, Tryz.ntmps24
  go_wp2_with fail
  refine (HOf.out _).mono ?_
  rintro e w1 ⟨rfl, hb1⟩
  go_wp2
  go_ret
  exact ⟨rfl, below_chain hb1 (below_alloc' w1 _)⟩

set_option maxRecDepth 100000 in
theorem rchk_wide (b : Nat) (hb0 : b < 18446744073709551616) (hb : 4294967296 ≤ b) (w : World) : Calls Tryz.prog 24 #[.int .i64 32, .int .u64 (b : Int)] w fun e w' => e = .returned (.int .i64 2) ∧ Below w.heap.size w w' := by
  obtain ⟨sg, hsg⟩ : ∃ sg : Int, (2147483648 : Int) = sg := ⟨_, rfl⟩
  have h : sg ≤ (b : Int) / 2 := by omega
  have hOf := rof07_S
  simp only [hsg] at hOf
  have HOf := Lib.hid hOf
  have hwr : IntKind.u64.wrap ((b : Int) / 2) = (b : Int) / 2 := by rw [IntKind.wrap_u64]; omega
  clear hb hb0 hsg hOf
  go_enter Tryz.func24, Tryz.ntmps24
  go_wp2_with fail
  refine (HOf.out _).mono ?_
  rintro e w1 ⟨rfl, hb1⟩
  go_wp2
  go_ret
  exact ⟨rfl, below_chain hb1 (below_alloc' w1 _)⟩

set_option maxRecDepth 100000 in
theorem rchk_D (b : Nat) (hb : b < 18446744073709551616) (w : World) : Calls Tryz.prog 24 #[.int .i64 64, .int .u64 (b : Int)] w fun e w' => e = .returned (.int .i64 0) ∧ Below w.heap.size w w' := by
  obtain ⟨sg, hsg⟩ : ∃ sg : Int, (9223372036854775808 : Int) = sg := ⟨_, rfl⟩
  have h : (b : Int) / 2 < sg := by omega
  have hOf := rof07_D
  simp only [hsg] at hOf
  have HOf := Lib.hid hOf
  have hwr : IntKind.u64.wrap ((b : Int) / 2) = (b : Int) / 2 := by rw [IntKind.wrap_u64]; omega
  clear hb hsg hOf
  go_enter Tryz.func24, Tryz.ntmps24
  go_wp2_with fail
  refine (HOf.out _).mono ?_
  rintro e w1 ⟨rfl, hb1⟩
  go_wp2
  go_ret
  exact ⟨rfl, below_chain hb1 (below_alloc' w1 _)⟩

set_option maxRecDepth 100000 in
theorem rchk_no (f : Int) (h1 : f ≠ 32) (h2 : f ≠ 64) (b : Nat) (w : World) : Calls Tryz.prog 24 #[.int .i64 f, .int .u64 (b : Int)] w fun e w' => e = .returned (.int .i64 1) ∧ Below w.heap.size w w' := by
  go_enter Tryz.func24, Tryz.ntmps24
  go_wp2_with fail
  refine (rof07_no f h1 h2 _).mono ?_
  rintro e w1 ⟨rfl, hb1⟩
  go_wp2
  go_ret
  exact ⟨rfl, below_chain hb1 (below_alloc' w1 _)⟩

set_option maxRecDepth 100000 in
theorem rparts_S (z : Nat) (hz : z < 2147483648) (w : World) : Calls Tryz.prog 26 #[.agg #[.int .u64 2147483648, .int .i64 24, .int .i64 (-149), .int .i64 104, .int .u64 2139095040, .int .u64 2143289345], .int .u64 (z : Int)] w fun e w' => e = .returned (.tuple #[.int .u64 ((ptM 8388608 z : Nat) : Int), .int .i64 (ptE 8388608 (-149) z)]) ∧ Below w.heap.size w w' := by
  have hw := below_alloc' w (.cells #[.int .u64 2147483648, .int .i64 24, .int .i64 (-149), .int .i64 104, .int .u64 2139095040, .int .u64 2143289345] 58)
  obtain ⟨q, hq⟩ : ∃ q, z / 8388608 = q := ⟨_, rfl⟩
  obtain ⟨r, hr⟩ : ∃ r, z % 8388608 = r := ⟨_, rfl⟩
  have hqi : (z : Int) / 8388608 = (q : Int) := by omega
  have hri : (z : Int) % 8388608 = (r : Int) := by omega
  have hqb : q < 4096 := by omega
  have hrb : r < 8388608 := by omega
  have hM : ptM 8388608 z = if q = 0 then r else 8388608 + r := by unfold ptM; rw [hq, hr]
  have hE : ptE 8388608 (-149) z = if q = 0 then ((-149) : Int) else ((-149) : Int) + (q : Int) - 1 := by unfold ptE; rw [hq]
  rw [hM, hE]
  have kw1 : IntKind.u64.wrap (8388608 + (r : Int)) = 8388608 + (r : Int) := by rw [IntKind.wrap_u64]; omega
  have kw2 : IntKind.i64.wrap (q : Int) = (q : Int) := by rw [IntKind.wrap_i64]; omega
  have kw3 : IntKind.i64.wrap (((-149) : Int) + (q : Int)) = ((-149) : Int) + (q : Int) := by rw [IntKind.wrap_i64]; omega
  have kw4 : IntKind.i64.wrap (((-149) : Int) + (q : Int) - 1) = ((-149) : Int) + (q : Int) - 1 := by rw [IntKind.wrap_i64]; omega
  clear hq hr hM hE hz
  by_cases h0 : q = 0
  · rw [if_pos h0, if_pos h0]
    subst h0
    go_enter Tryz.func26, Tryz.ntmps26
    go_wp2_with fail
    go_quiet (fail)
    go_wp2
    go_quiet (fail)
    go_wp2
    go_ret2
    refine ⟨?_, below_dn (below_dn hw _) _⟩
    first | rfl | (rw [← hri]; rfl)
  · rw [if_neg h0, if_neg h0]
    have hqz : ((q : Int) == 0) = false := by rw [beq_eq_false_iff_ne]; omega
    go_enter Tryz.func26, Tryz.ntmps26
    go_wp2_with fail
    go_quiet (fail)
    go_wp2
    go_quiet (fail)
    go_wp2
    go_ret2
    refine ⟨?_, below_dn (below_dn hw _) _⟩
    first | rfl | (congr 4 <;> omega) | (rw [Int.natCast_add]; rfl)

set_option maxRecDepth 100000 in
theorem rparts_D (z : Nat) (hz : z < 9223372036854775808) (w : World) : Calls Tryz.prog 26 #[.agg #[.int .u64 9223372036854775808, .int .i64 53, .int .i64 (-1074), .int .i64 971, .int .u64 9218868437227405312, .int .u64 9221120237041090561], .int .u64 (z : Int)] w fun e w' => e = .returned (.tuple #[.int .u64 ((ptM 4503599627370496 z : Nat) : Int), .int .i64 (ptE 4503599627370496 (-1074) z)]) ∧ Below w.heap.size w w' := by
  have hw := below_alloc' w (.cells #[.int .u64 9223372036854775808, .int .i64 53, .int .i64 (-1074), .int .i64 971, .int .u64 9218868437227405312, .int .u64 9221120237041090561] 58)
  obtain ⟨q, hq⟩ : ∃ q, z / 4503599627370496 = q := ⟨_, rfl⟩
  obtain ⟨r, hr⟩ : ∃ r, z % 4503599627370496 = r := ⟨_, rfl⟩
  have hqi : (z : Int) / 4503599627370496 = (q : Int) := by omega
  have hri : (z : Int) % 4503599627370496 = (r : Int) := by omega
  have hqb : q < 4096 := by omega
  have hrb : r < 4503599627370496 := by omega
  have hM : ptM 4503599627370496 z = if q = 0 then r else 4503599627370496 + r := by unfold ptM; rw [hq, hr]
  have hE : ptE 4503599627370496 (-1074) z = if q = 0 then ((-1074) : Int) else ((-1074) : Int) + (q : Int) - 1 := by unfold ptE; rw [hq]
  rw [hM, hE]
  have kw1 : IntKind.u64.wrap (4503599627370496 + (r : Int)) = 4503599627370496 + (r : Int) := by rw [IntKind.wrap_u64]; omega
  have kw2 : IntKind.i64.wrap (q : Int) = (q : Int) := by rw [IntKind.wrap_i64]; omega
  have kw3 : IntKind.i64.wrap (((-1074) : Int) + (q : Int)) = ((-1074) : Int) + (q : Int) := by rw [IntKind.wrap_i64]; omega
  have kw4 : IntKind.i64.wrap (((-1074) : Int) + (q : Int) - 1) = ((-1074) : Int) + (q : Int) - 1 := by rw [IntKind.wrap_i64]; omega
  clear hq hr hM hE hz
  by_cases h0 : q = 0
  · rw [if_pos h0, if_pos h0]
    subst h0
    go_enter Tryz.func26, Tryz.ntmps26
    go_wp2_with fail
    go_quiet (fail)
    go_wp2
    go_quiet (fail)
    go_wp2
    go_ret2
    refine ⟨?_, below_dn (below_dn hw _) _⟩
    first | rfl | (rw [← hri]; rfl)
  · rw [if_neg h0, if_neg h0]
    have hqz : ((q : Int) == 0) = false := by rw [beq_eq_false_iff_ne]; omega
    go_enter Tryz.func26, Tryz.ntmps26
    go_wp2_with fail
    go_quiet (fail)
    go_wp2
    go_quiet (fail)
    go_wp2
    go_ret2
    refine ⟨?_, below_dn (below_dn hw _) _⟩
    first | rfl | (congr 4 <;> omega) | (rw [Int.natCast_add]; rfl)
end Go.Proofs.YtooehlneoboenaaGreatDoor

namespace Go.Proofs.YtooehlneoboenaaGreatDoor
open Go.RowKit



theorem tdl2 {a k : Nat} (h : blen a ≤ 32 * k) : (toD a).length ≤ k := by rw [toD_length]; omega

set_option maxRecDepth 100000 in
set_option maxHeartbeats 1000000 in
theorem rsize_S (sg I Q : Int) (v : Value) (n : Nat) (w : World) (h : DgAt w v n) (hb : blen n ≤ 277) :
    Calls Tryz.prog 47 #[.agg #[.int .u64 sg, .int .i64 24, .int .i64 (-149), .int .i64 104, .int .u64 I, .int .u64 Q], v] w fun e w' => e = .returned (.int .u64 ((sizeN 24 n : Nat) : Int)) ∧ Below w.heap.size w w' := by
  have hw := below_alloc' w (.cells #[.int .u64 sg, .int .i64 24, .int .i64 (-149), .int .i64 104, .int .u64 I, .int .u64 Q] 58)
  have hl : (toD n).length ≤ 100 := tdl2 (by omega)
  have HBt := Lib.hid (rbits_walk v n _ (h.below hw) (by omega))
  obtain ⟨t, ht⟩ : ∃ t, blen n = t := ⟨_, rfl⟩
  have hs : sizeN 24 n = if t < 24 then n else (t - 24) * 2 ^ 23 + n / 2 ^ (t - 24) := by unfold sizeN; rw [ht]
  rw [hs]
  rw [ht] at HBt
  have HW := Lib.hid hw
  by_cases h1 : t < 24
  · rw [if_pos h1]
    have hn : n < 2 ^ 24 := blen_le.1 (by omega)
    have HF := Lib.hid (rfits_walk v n _ (h.below hw) (by omega))
    have hlt : (t : Int) < 24 := by omega
    clear hn hs hl hb ht h1 hw h
    go_enter Tryz.func47, Tryz.ntmps47
    go_wp2_with fail
    refine HBt.out.mono ?_
    rintro e w1 ⟨rfl, rfl⟩
    go_wp2_with fail
    refine HF.out.mono ?_
    rintro e w2 ⟨rfl, hb2⟩
    have HW2 := Lib.hid (below_chain HW.out hb2)
    clear hb2
    go_wp2
    go_ret
    exact ⟨rfl, HW2.out⟩
  · rw [if_neg h1]
    obtain ⟨k, hk⟩ : ∃ k, t = k + 24 := ⟨t - 24, by omega⟩
    subst hk
    rw [Nat.add_sub_cancel]
    have hk2 : k ≤ 2100 := by omega
    have hkT : k ≤ 277 - 24 := by omega
    have hq : n / 2 ^ k < 2 ^ 24 := by
      rw [Nat.div_lt_iff_lt_mul (Nat.two_pow_pos k), ← Nat.pow_add]
      exact blen_le.1 (by omega)
    obtain ⟨q, hqe⟩ : ∃ q, n / 2 ^ k = q := ⟨_, rfl⟩
    have hS := rshr_walk v n (k : Int) _ (h.below hw) (by omega) (by omega) (by omega)
    rw [Int.toNat_natCast, hqe] at hS
    rw [hqe] at hq ⊢
    have HS := Lib.hid hS
    have HF := Lib.hid (fun v w (h : DgAt w v q) => rfits_walk v q w h (by omega))
    have hge : 24 ≤ ((k + 24 : Nat) : Int) := by omega
    have p1 : IntKind.i64.wrap (((k + 24 : Nat) : Int) - 24) = (k : Int) := by rw [IntKind.wrap_i64]; omega
    have HQ := Lib.hid hq
    have HK := Lib.hid hkT
    have p2 : IntKind.u64.wrap (k : Int) = (k : Int) := by rw [IntKind.wrap_u64]; omega
    have p3 : IntKind.u64.wrap ((k : Int) * 8388608) = (k : Int) * 8388608 := by rw [IntKind.wrap_u64]; omega
    have p4 : IntKind.u64.wrap ((k : Int) * 8388608 + (q : Int)) = (((k * 2 ^ 23 + q : Nat)) : Int) := by rw [IntKind.wrap_u64]; omega
    clear hs hl hb ht h1 hw h hS hq hqe hkT
    go_enter Tryz.func47, Tryz.ntmps47
    go_wp2_with fail
    refine HBt.out.mono ?_
    rintro e w1 ⟨rfl, rfl⟩
    go_wp2_with fail
    refine HS.out.mono ?_
    rintro e w2 ⟨v2, rfl, hd2, hb2⟩
    have y0 : w2.cell? ⟨w.heap.size, 0, none⟩ = some (.int .u64 sg) := cell_kept hb2 (by simp)
    have y1 : w2.cell? ⟨w.heap.size, 1, none⟩ = some (.int .i64 24) := cell_kept hb2 (by simp)
    have y2 : w2.cell? ⟨w.heap.size, 2, none⟩ = some (.int .i64 (-149)) := cell_kept hb2 (by simp)
    have y3 : w2.cell? ⟨w.heap.size, 3, none⟩ = some (.int .i64 104) := cell_kept hb2 (by simp)
    have y4 : w2.cell? ⟨w.heap.size, 4, none⟩ = some (.int .u64 I) := cell_kept hb2 (by simp)
    have y5 : w2.cell? ⟨w.heap.size, 5, none⟩ = some (.int .u64 Q) := cell_kept hb2 (by simp)
    have HD2 := Lib.hid hd2
    have HW2 := Lib.hid (below_chain HW.out hb2)
    clear hb2 hd2
    go_wp2_with fail
    refine (HF.out _ _ HD2.out).mono ?_
    rintro e w3 ⟨rfl, hb3⟩
    have z0 : w3.cell? ⟨w.heap.size, 0, none⟩ = some (.int .u64 sg) := cell_kept hb3 y0
    have z1 : w3.cell? ⟨w.heap.size, 1, none⟩ = some (.int .i64 24) := cell_kept hb3 y1
    have z2 : w3.cell? ⟨w.heap.size, 2, none⟩ = some (.int .i64 (-149)) := cell_kept hb3 y2
    have z3 : w3.cell? ⟨w.heap.size, 3, none⟩ = some (.int .i64 104) := cell_kept hb3 y3
    have z4 : w3.cell? ⟨w.heap.size, 4, none⟩ = some (.int .u64 I) := cell_kept hb3 y4
    have z5 : w3.cell? ⟨w.heap.size, 5, none⟩ = some (.int .u64 Q) := cell_kept hb3 y5
    have HW3 := Lib.hid (below_chain HW2.out hb3)
    clear hb3 y0 y1 y2 y3 y4 y5
    go_wp2
    go_ret
    exact ⟨rfl, HW3.out⟩


set_option maxRecDepth 100000 in
set_option maxHeartbeats 1000000 in
theorem rsize_D (sg I Q : Int) (v : Value) (n : Nat) (w : World) (h : DgAt w v n) (hb : blen n ≤ 2098) :
    Calls Tryz.prog 47 #[.agg #[.int .u64 sg, .int .i64 53, .int .i64 (-1074), .int .i64 971, .int .u64 I, .int .u64 Q], v] w fun e w' => e = .returned (.int .u64 ((sizeN 53 n : Nat) : Int)) ∧ Below w.heap.size w w' := by
  have hw := below_alloc' w (.cells #[.int .u64 sg, .int .i64 53, .int .i64 (-1074), .int .i64 971, .int .u64 I, .int .u64 Q] 58)
  have hl : (toD n).length ≤ 100 := tdl2 (by omega)
  have HBt := Lib.hid (rbits_walk v n _ (h.below hw) (by omega))
  obtain ⟨t, ht⟩ : ∃ t, blen n = t := ⟨_, rfl⟩
  have hs : sizeN 53 n = if t < 53 then n else (t - 53) * 2 ^ 52 + n / 2 ^ (t - 53) := by unfold sizeN; rw [ht]
  rw [hs]
  rw [ht] at HBt
  have HW := Lib.hid hw
  by_cases h1 : t < 53
  · rw [if_pos h1]
    have hn : n < 2 ^ 53 := blen_le.1 (by omega)
    have HF := Lib.hid (rfits_walk v n _ (h.below hw) (by omega))
    have hlt : (t : Int) < 53 := by omega
    clear hn hs hl hb ht h1 hw h
    go_enter Tryz.func47, Tryz.ntmps47
    go_wp2_with fail
    refine HBt.out.mono ?_
    rintro e w1 ⟨rfl, rfl⟩
    go_wp2_with fail
    refine HF.out.mono ?_
    rintro e w2 ⟨rfl, hb2⟩
    have HW2 := Lib.hid (below_chain HW.out hb2)
    clear hb2
    go_wp2
    go_ret
    exact ⟨rfl, HW2.out⟩
  · rw [if_neg h1]
    obtain ⟨k, hk⟩ : ∃ k, t = k + 53 := ⟨t - 53, by omega⟩
    subst hk
    rw [Nat.add_sub_cancel]
    have hk2 : k ≤ 2100 := by omega
    have hkT : k ≤ 2098 - 53 := by omega
    have hq : n / 2 ^ k < 2 ^ 53 := by
      rw [Nat.div_lt_iff_lt_mul (Nat.two_pow_pos k), ← Nat.pow_add]
      exact blen_le.1 (by omega)
    obtain ⟨q, hqe⟩ : ∃ q, n / 2 ^ k = q := ⟨_, rfl⟩
    have hS := rshr_walk v n (k : Int) _ (h.below hw) (by omega) (by omega) (by omega)
    rw [Int.toNat_natCast, hqe] at hS
    rw [hqe] at hq ⊢
    have HS := Lib.hid hS
    have HF := Lib.hid (fun v w (h : DgAt w v q) => rfits_walk v q w h (by omega))
    have hge : 53 ≤ ((k + 53 : Nat) : Int) := by omega
    have p1 : IntKind.i64.wrap (((k + 53 : Nat) : Int) - 53) = (k : Int) := by rw [IntKind.wrap_i64]; omega
    have HQ := Lib.hid hq
    have HK := Lib.hid hkT
    have p2 : IntKind.u64.wrap (k : Int) = (k : Int) := by rw [IntKind.wrap_u64]; omega
    have p3 : IntKind.u64.wrap ((k : Int) * 4503599627370496) = (k : Int) * 4503599627370496 := by rw [IntKind.wrap_u64]; omega
    have p4 : IntKind.u64.wrap ((k : Int) * 4503599627370496 + (q : Int)) = (((k * 2 ^ 52 + q : Nat)) : Int) := by rw [IntKind.wrap_u64]; omega
    clear hs hl hb ht h1 hw h hS hq hqe hkT
    go_enter Tryz.func47, Tryz.ntmps47
    go_wp2_with fail
    refine HBt.out.mono ?_
    rintro e w1 ⟨rfl, rfl⟩
    go_wp2_with fail
    refine HS.out.mono ?_
    rintro e w2 ⟨v2, rfl, hd2, hb2⟩
    have y0 : w2.cell? ⟨w.heap.size, 0, none⟩ = some (.int .u64 sg) := cell_kept hb2 (by simp)
    have y1 : w2.cell? ⟨w.heap.size, 1, none⟩ = some (.int .i64 53) := cell_kept hb2 (by simp)
    have y2 : w2.cell? ⟨w.heap.size, 2, none⟩ = some (.int .i64 (-1074)) := cell_kept hb2 (by simp)
    have y3 : w2.cell? ⟨w.heap.size, 3, none⟩ = some (.int .i64 971) := cell_kept hb2 (by simp)
    have y4 : w2.cell? ⟨w.heap.size, 4, none⟩ = some (.int .u64 I) := cell_kept hb2 (by simp)
    have y5 : w2.cell? ⟨w.heap.size, 5, none⟩ = some (.int .u64 Q) := cell_kept hb2 (by simp)
    have HD2 := Lib.hid hd2
    have HW2 := Lib.hid (below_chain HW.out hb2)
    clear hb2 hd2
    go_wp2_with fail
    refine (HF.out _ _ HD2.out).mono ?_
    rintro e w3 ⟨rfl, hb3⟩
    have z0 : w3.cell? ⟨w.heap.size, 0, none⟩ = some (.int .u64 sg) := cell_kept hb3 y0
    have z1 : w3.cell? ⟨w.heap.size, 1, none⟩ = some (.int .i64 53) := cell_kept hb3 y1
    have z2 : w3.cell? ⟨w.heap.size, 2, none⟩ = some (.int .i64 (-1074)) := cell_kept hb3 y2
    have z3 : w3.cell? ⟨w.heap.size, 3, none⟩ = some (.int .i64 971) := cell_kept hb3 y3
    have z4 : w3.cell? ⟨w.heap.size, 4, none⟩ = some (.int .u64 I) := cell_kept hb3 y4
    have z5 : w3.cell? ⟨w.heap.size, 5, none⟩ = some (.int .u64 Q) := cell_kept hb3 y5
    have HW3 := Lib.hid (below_chain HW2.out hb3)
    clear hb3 y0 y1 y2 y3 y4 y5
    go_wp2
    go_ret
    exact ⟨rfl, HW3.out⟩

end Go.Proofs.YtooehlneoboenaaGreatDoor
