/- Walks of gnomonref07: Of, Check, Cut, Parts, ClassOf, DocClass. -/
import Derived.Test.YtmfjimmodaofdaaGreatDoorBc
namespace Go.Proofs.YtmfjimmodaofdaaGreatDoor
open Go.RowKit
theorem six_set {W : World} {g : Nat} {x0 x1 x2 x3 x4 x5 : Value} (g0 : W.cell? ⟨g, 0, none⟩ = some x0) (g1 : W.cell? ⟨g, 1, none⟩ = some x1) (g2 : W.cell? ⟨g, 2, none⟩ = some x2) (g3 : W.cell? ⟨g, 3, none⟩ = some x3) (g4 : W.cell? ⟨g, 4, none⟩ = some x4) (g5 : W.cell? ⟨g, 5, none⟩ = some x5) (v0 v1 v2 v3 v4 v5 : Value) :
    ∃ X, X = ((((((W.setCell ⟨g, 0, none⟩ v0).setCell ⟨g, 1, none⟩ v1).setCell ⟨g, 2, none⟩ v2).setCell ⟨g, 3, none⟩ v3).setCell ⟨g, 4, none⟩ v4).setCell ⟨g, 5, none⟩ v5) ∧
    X.cell? ⟨g, 0, none⟩ = some v0 ∧ X.cell? ⟨g, 1, none⟩ = some v1 ∧ X.cell? ⟨g, 2, none⟩ = some v2 ∧ X.cell? ⟨g, 3, none⟩ = some v3 ∧ X.cell? ⟨g, 4, none⟩ = some v4 ∧ X.cell? ⟨g, 5, none⟩ = some v5 := by
  refine ⟨_, rfl, ?_, ?_, ?_, ?_, ?_, ?_⟩
  · rw [cell_other (by simp), cell_other (by simp), cell_other (by simp), cell_other (by simp), cell_other (by simp)]; exact World.cell?_setCell_same' _ _ _ (by rw [g0]; rfl)
  · rw [cell_other (by simp), cell_other (by simp), cell_other (by simp), cell_other (by simp)]; exact World.cell?_setCell_same' _ _ _ (by rw [cell_other (by simp), g1]; rfl)
  · rw [cell_other (by simp), cell_other (by simp), cell_other (by simp)]; exact World.cell?_setCell_same' _ _ _ (by rw [cell_other (by simp), cell_other (by simp), g2]; rfl)
  · rw [cell_other (by simp), cell_other (by simp)]; exact World.cell?_setCell_same' _ _ _ (by rw [cell_other (by simp), cell_other (by simp), cell_other (by simp), g3]; rfl)
  · rw [cell_other (by simp)]; exact World.cell?_setCell_same' _ _ _ (by rw [cell_other (by simp), cell_other (by simp), cell_other (by simp), cell_other (by simp), g4]; rfl)
  · exact World.cell?_setCell_same' _ _ _ (by rw [cell_other (by simp), cell_other (by simp), cell_other (by simp), cell_other (by simp), cell_other (by simp), g5]; rfl)
theorem box6_new (w : World) (v0 v1 v2 v3 v4 v5 : Value) (t : TypeId) : ∃ W, W = w.alloc (.cells #[v0, v1, v2, v3, v4, v5] t) ∧ W.heap.size = w.heap.size + 1 ∧ W.cell? ⟨w.heap.size, 0, none⟩ = some v0 ∧ W.cell? ⟨w.heap.size, 1, none⟩ = some v1 ∧ W.cell? ⟨w.heap.size, 2, none⟩ = some v2 ∧ W.cell? ⟨w.heap.size, 3, none⟩ = some v3 ∧ W.cell? ⟨w.heap.size, 4, none⟩ = some v4 ∧ W.cell? ⟨w.heap.size, 5, none⟩ = some v5 ∧
    W.frozen? ⟨w.heap.size, 0, none⟩ = false ∧ W.frozen? ⟨w.heap.size, 1, none⟩ = false ∧ W.frozen? ⟨w.heap.size, 2, none⟩ = false ∧ W.frozen? ⟨w.heap.size, 3, none⟩ = false ∧ W.frozen? ⟨w.heap.size, 4, none⟩ = false ∧ W.frozen? ⟨w.heap.size, 5, none⟩ = false :=
  ⟨_, rfl, by simp, by simp, by simp, by simp, by simp, by simp, by simp, by simp, by simp, by simp, by simp, by simp, by simp⟩

set_option maxRecDepth 100000 in
set_option maxHeartbeats 1000000 in
theorem rof07_S (w : World) : Calls Tryz.prog 79 #[.int .i64 32] w fun e w' => e = .returned (.tuple #[.agg #[.int .u64 2147483648, .int .i64 24, .int .i64 (-149), .int .i64 104, .int .u64 2139095040, .int .u64 2143289345], .bool true]) ∧ Below w.heap.size w w' := by
  go_enter Tryz.func79, Tryz.ntmps79
  go_wp2
  obtain ⟨X, hX, hz, r0, r1, r2, r3, r4, r5, _⟩ := box6_new w (.int .u64 2147483648) (.int .i64 24) (.int .i64 (-149)) (.int .i64 104) (.int .u64 2139095040) (.int .u64 2143289345) 122
  have hBX := below_alloc' w (.cells #[.int .u64 2147483648, .int .i64 24, .int .i64 (-149), .int .i64 104, .int .u64 2139095040, .int .u64 2143289345] 122)
  rw [← hX] at hBX ⊢
  clear hX
  exact bodyPost_ret (v := .tuple #[.agg #[.int .u64 2147483648, .int .i64 24, .int .i64 (-149), .int .i64 104, .int .u64 2139095040, .int .u64 2143289345], .bool true]) (by simp [results, Tryz.results79, go_sem, r0, r1, r2, r3, r4, r5]) rfl ⟨rfl, hBX⟩

set_option maxRecDepth 100000 in
set_option maxHeartbeats 1000000 in
theorem rof07_D (w : World) : Calls Tryz.prog 79 #[.int .i64 64] w fun e w' => e = .returned (.tuple #[.agg #[.int .u64 9223372036854775808, .int .i64 53, .int .i64 (-1074), .int .i64 971, .int .u64 9218868437227405312, .int .u64 9221120237041090561], .bool true]) ∧ Below w.heap.size w w' := by
  go_enter Tryz.func79, Tryz.ntmps79
  go_wp2
  obtain ⟨X, hX, hz, r0, r1, r2, r3, r4, r5, _⟩ := box6_new w (.int .u64 9223372036854775808) (.int .i64 53) (.int .i64 (-1074)) (.int .i64 971) (.int .u64 9218868437227405312) (.int .u64 9221120237041090561) 122
  have hBX := below_alloc' w (.cells #[.int .u64 9223372036854775808, .int .i64 53, .int .i64 (-1074), .int .i64 971, .int .u64 9218868437227405312, .int .u64 9221120237041090561] 122)
  rw [← hX] at hBX ⊢
  clear hX
  exact bodyPost_ret (v := .tuple #[.agg #[.int .u64 9223372036854775808, .int .i64 53, .int .i64 (-1074), .int .i64 971, .int .u64 9218868437227405312, .int .u64 9221120237041090561], .bool true]) (by simp [results, Tryz.results79, go_sem, r0, r1, r2, r3, r4, r5]) rfl ⟨rfl, hBX⟩

set_option maxRecDepth 100000 in
set_option maxHeartbeats 1000000 in
theorem rof07_no (f : Int) (h1 : f ≠ 32) (h2 : f ≠ 64) (w : World) : Calls Tryz.prog 79 #[.int .i64 f] w fun e w' => e = .returned (.tuple #[.agg #[.int .u64 0, .int .i64 0, .int .i64 0, .int .i64 0, .int .u64 0, .int .u64 0], .bool false]) ∧ Below w.heap.size w w' := by
  obtain ⟨e1, e2⟩ := no_fmt h1 h2
  go_enter Tryz.func79, Tryz.ntmps79
  go_wp2
  obtain ⟨X, hX, hz, r0, r1, r2, r3, r4, r5, _⟩ := box6_new w (.int .u64 0) (.int .i64 0) (.int .i64 0) (.int .i64 0) (.int .u64 0) (.int .u64 0) 122
  have hBX := below_alloc' w (.cells #[.int .u64 0, .int .i64 0, .int .i64 0, .int .i64 0, .int .u64 0, .int .u64 0] 122)
  rw [← hX] at hBX ⊢
  clear hX
  exact bodyPost_ret (v := .tuple #[.agg #[.int .u64 0, .int .i64 0, .int .i64 0, .int .i64 0, .int .u64 0, .int .u64 0], .bool false]) (by simp [results, Tryz.results79, go_sem, r0, r1, r2, r3, r4, r5]) rfl ⟨rfl, hBX⟩

set_option maxRecDepth 100000 in
theorem rcut_S (b : Nat) (hb : b < 18446744073709551616) (w : World) : Calls Tryz.prog 80 #[.agg #[.int .u64 2147483648, .int .i64 24, .int .i64 (-149), .int .i64 104, .int .u64 2139095040, .int .u64 2143289345], .int .u64 (b : Int)] w fun e w' => e = .returned (.tuple #[.bool (decide (2147483648 ≤ b)), .int .u64 ((b % 2147483648 : Nat) : Int)]) ∧ Below w.heap.size w w' := by
  have hw := below_alloc' w (.cells #[.int .u64 2147483648, .int .i64 24, .int .i64 (-149), .int .i64 104, .int .u64 2139095040, .int .u64 2143289345] 122)
  have e1 : decide ((2147483648 : Int) ≤ (b : Int)) = decide (2147483648 ≤ b) := by rw [decide_eq_decide]; omega
  have e2 : (b : Int) % 2147483648 = ((b % 2147483648 : Nat) : Int) := by omega
  have HE1 := Lib.hid e1
  have HE2 := Lib.hid e2
  clear e1 e2 hb
  go_enter Tryz.func80, Tryz.ntmps80
  go_wp2_with fail
  go_quiet (fail)
  go_wp2
  go_ret2
  exact ⟨by rw [← HE1.out, ← HE2.out]; rfl, below_dn hw _⟩

set_option maxRecDepth 100000 in
theorem rcut_D (b : Nat) (hb : b < 18446744073709551616) (w : World) : Calls Tryz.prog 80 #[.agg #[.int .u64 9223372036854775808, .int .i64 53, .int .i64 (-1074), .int .i64 971, .int .u64 9218868437227405312, .int .u64 9221120237041090561], .int .u64 (b : Int)] w fun e w' => e = .returned (.tuple #[.bool (decide (9223372036854775808 ≤ b)), .int .u64 ((b % 9223372036854775808 : Nat) : Int)]) ∧ Below w.heap.size w w' := by
  have hw := below_alloc' w (.cells #[.int .u64 9223372036854775808, .int .i64 53, .int .i64 (-1074), .int .i64 971, .int .u64 9218868437227405312, .int .u64 9221120237041090561] 122)
  have e1 : decide ((9223372036854775808 : Int) ≤ (b : Int)) = decide (9223372036854775808 ≤ b) := by rw [decide_eq_decide]; omega
  have e2 : (b : Int) % 9223372036854775808 = ((b % 9223372036854775808 : Nat) : Int) := by omega
  have HE1 := Lib.hid e1
  have HE2 := Lib.hid e2
  clear e1 e2 hb
  go_enter Tryz.func80, Tryz.ntmps80
  go_wp2_with fail
  go_quiet (fail)
  go_wp2
  go_ret2
  exact ⟨by rw [← HE1.out, ← HE2.out]; rfl, below_dn hw _⟩
set_option maxRecDepth 100000 in
theorem rchk_S (b : Nat) (hb : b < 4294967296) (w : World) : Calls Tryz.prog 78 #[.int .i64 32, .int .u64 (b : Int)] w fun e w' => e = .returned (.int .i64 0) ∧ Below w.heap.size w w' := by
  obtain ⟨sg, hsg⟩ : ∃ sg : Int, (2147483648 : Int) = sg := ⟨_, rfl⟩
  have h : (b : Int) / 2 < sg := by omega
  have hOf := rof07_S
  simp only [hsg] at hOf
  have HOf := Lib.hid hOf
  have hwr : IntKind.u64.wrap ((b : Int) / 2) = (b : Int) / 2 := by rw [IntKind.wrap_u64]; omega
  clear hb hsg hOf
  go_enter Tryz.func78, Tryz.ntmps78
  go_wp2_with fail
  refine (HOf.out _).mono ?_
  rintro e w1 ⟨rfl, hb1⟩
  go_wp2
  go_ret
  exact ⟨rfl, below_chain hb1 (below_alloc' w1 _)⟩

set_option maxRecDepth 100000 in
theorem rchk_wide (b : Nat) (hb0 : b < 18446744073709551616) (hb : 4294967296 ≤ b) (w : World) : Calls Tryz.prog 78 #[.int .i64 32, .int .u64 (b : Int)] w fun e w' => e = .returned (.int .i64 2) ∧ Below w.heap.size w w' := by
  obtain ⟨sg, hsg⟩ : ∃ sg : Int, (2147483648 : Int) = sg := ⟨_, rfl⟩
  have h : sg ≤ (b : Int) / 2 := by omega
  have hOf := rof07_S
  simp only [hsg] at hOf
  have HOf := Lib.hid hOf
  have hwr : IntKind.u64.wrap ((b : Int) / 2) = (b : Int) / 2 := by rw [IntKind.wrap_u64]; omega
  clear hb hb0 hsg hOf
  go_enter Tryz.func78, Tryz.ntmps78
  go_wp2_with fail
  refine (HOf.out _).mono ?_
  rintro e w1 ⟨rfl, hb1⟩
  go_wp2
  go_ret
  exact ⟨rfl, below_chain hb1 (below_alloc' w1 _)⟩

set_option maxRecDepth 100000 in
theorem rchk_D (b : Nat) (hb : b < 18446744073709551616) (w : World) : Calls Tryz.prog 78 #[.int .i64 64, .int .u64 (b : Int)] w fun e w' => e = .returned (.int .i64 0) ∧ Below w.heap.size w w' := by
  obtain ⟨sg, hsg⟩ : ∃ sg : Int, (9223372036854775808 : Int) = sg := ⟨_, rfl⟩
  have h : (b : Int) / 2 < sg := by omega
  have hOf := rof07_D
  simp only [hsg] at hOf
  have HOf := Lib.hid hOf
  have hwr : IntKind.u64.wrap ((b : Int) / 2) = (b : Int) / 2 := by rw [IntKind.wrap_u64]; omega
  clear hb hsg hOf
  go_enter Tryz.func78, Tryz.ntmps78
  go_wp2_with fail
  refine (HOf.out _).mono ?_
  rintro e w1 ⟨rfl, hb1⟩
  go_wp2
  go_ret
  exact ⟨rfl, below_chain hb1 (below_alloc' w1 _)⟩

set_option maxRecDepth 100000 in
theorem rchk_no (f : Int) (h1 : f ≠ 32) (h2 : f ≠ 64) (b : Nat) (w : World) : Calls Tryz.prog 78 #[.int .i64 f, .int .u64 (b : Int)] w fun e w' => e = .returned (.int .i64 1) ∧ Below w.heap.size w w' := by
  go_enter Tryz.func78, Tryz.ntmps78
  go_wp2_with fail
  refine (rof07_no f h1 h2 _).mono ?_
  rintro e w1 ⟨rfl, hb1⟩
  go_wp2
  go_ret
  exact ⟨rfl, below_chain hb1 (below_alloc' w1 _)⟩

set_option maxRecDepth 100000 in
theorem rparts_S (z : Nat) (hz : z < 2147483648) (w : World) : Calls Tryz.prog 182 #[.agg #[.int .u64 2147483648, .int .i64 24, .int .i64 (-149), .int .i64 104, .int .u64 2139095040, .int .u64 2143289345], .int .u64 (z : Int)] w fun e w' => e = .returned (.tuple #[.int .u64 ((ptM 8388608 z : Nat) : Int), .int .i64 (ptE 8388608 (-149) z)]) ∧ Below w.heap.size w w' := by
  have hw := below_alloc' w (.cells #[.int .u64 2147483648, .int .i64 24, .int .i64 (-149), .int .i64 104, .int .u64 2139095040, .int .u64 2143289345] 122)
  obtain ⟨q, hq⟩ : ∃ q, z / 8388608 = q := ⟨_, rfl⟩
  obtain ⟨r, hr⟩ : ∃ r, z % 8388608 = r := ⟨_, rfl⟩
  have hqi : (z : Int) / 8388608 = (q : Int) := by omega
  have hri : (z : Int) % 8388608 = (r : Int) := by omega
  have hqb : q < 4096 := by omega
  have hrb : r < 8388608 := by omega
  have hM : ptM 8388608 z = if q = 0 then r else 8388608 + r := by unfold ptM; rw [hq, hr]
  have hE : ptE 8388608 (-149) z = if q = 0 then ((-149) : Int) else ((-149) : Int) + (q : Int) - 1 := by unfold ptE; rw [hq]
  rw [hM, hE]
  have kw1 : IntKind.u64.wrap (8388608 + (r : Int)) = 8388608 + (r : Int) := by rw [IntKind.wrap_u64]; omega
  have kw2 : IntKind.i64.wrap (q : Int) = (q : Int) := by rw [IntKind.wrap_i64]; omega
  have kw3 : IntKind.i64.wrap (((-149) : Int) + (q : Int)) = ((-149) : Int) + (q : Int) := by rw [IntKind.wrap_i64]; omega
  have kw4 : IntKind.i64.wrap (((-149) : Int) + (q : Int) - 1) = ((-149) : Int) + (q : Int) - 1 := by rw [IntKind.wrap_i64]; omega
  clear hq hr hM hE hz
  by_cases h0 : q = 0
  · rw [if_pos h0, if_pos h0]
    subst h0
    go_enter Tryz.func182, Tryz.ntmps182
    go_wp2_with fail
    go_quiet (fail)
    go_wp2
    go_quiet (fail)
    go_wp2
    go_ret2
    refine ⟨?_, below_dn (below_dn hw _) _⟩
    first | rfl | (rw [← hri]; rfl)
  · rw [if_neg h0, if_neg h0]
    have hqz : ((q : Int) == 0) = false := by rw [beq_eq_false_iff_ne]; omega
    go_enter Tryz.func182, Tryz.ntmps182
    go_wp2_with fail
    go_quiet (fail)
    go_wp2
    go_quiet (fail)
    go_wp2
    go_ret2
    refine ⟨?_, below_dn (below_dn hw _) _⟩
    first | rfl | (congr 4 <;> omega) | (rw [Int.natCast_add]; rfl)

set_option maxRecDepth 100000 in
theorem rparts_D (z : Nat) (hz : z < 9223372036854775808) (w : World) : Calls Tryz.prog 182 #[.agg #[.int .u64 9223372036854775808, .int .i64 53, .int .i64 (-1074), .int .i64 971, .int .u64 9218868437227405312, .int .u64 9221120237041090561], .int .u64 (z : Int)] w fun e w' => e = .returned (.tuple #[.int .u64 ((ptM 4503599627370496 z : Nat) : Int), .int .i64 (ptE 4503599627370496 (-1074) z)]) ∧ Below w.heap.size w w' := by
  have hw := below_alloc' w (.cells #[.int .u64 9223372036854775808, .int .i64 53, .int .i64 (-1074), .int .i64 971, .int .u64 9218868437227405312, .int .u64 9221120237041090561] 122)
  obtain ⟨q, hq⟩ : ∃ q, z / 4503599627370496 = q := ⟨_, rfl⟩
  obtain ⟨r, hr⟩ : ∃ r, z % 4503599627370496 = r := ⟨_, rfl⟩
  have hqi : (z : Int) / 4503599627370496 = (q : Int) := by omega
  have hri : (z : Int) % 4503599627370496 = (r : Int) := by omega
  have hqb : q < 4096 := by omega
  have hrb : r < 4503599627370496 := by omega
  have hM : ptM 4503599627370496 z = if q = 0 then r else 4503599627370496 + r := by unfold ptM; rw [hq, hr]
  have hE : ptE 4503599627370496 (-1074) z = if q = 0 then ((-1074) : Int) else ((-1074) : Int) + (q : Int) - 1 := by unfold ptE; rw [hq]
  rw [hM, hE]
  have kw1 : IntKind.u64.wrap (4503599627370496 + (r : Int)) = 4503599627370496 + (r : Int) := by rw [IntKind.wrap_u64]; omega
  have kw2 : IntKind.i64.wrap (q : Int) = (q : Int) := by rw [IntKind.wrap_i64]; omega
  have kw3 : IntKind.i64.wrap (((-1074) : Int) + (q : Int)) = ((-1074) : Int) + (q : Int) := by rw [IntKind.wrap_i64]; omega
  have kw4 : IntKind.i64.wrap (((-1074) : Int) + (q : Int) - 1) = ((-1074) : Int) + (q : Int) - 1 := by rw [IntKind.wrap_i64]; omega
  clear hq hr hM hE hz
  by_cases h0 : q = 0
  · rw [if_pos h0, if_pos h0]
    subst h0
    go_enter Tryz.func182, Tryz.ntmps182
    go_wp2_with fail
    go_quiet (fail)
    go_wp2
    go_quiet (fail)
    go_wp2
    go_ret2
    refine ⟨?_, below_dn (below_dn hw _) _⟩
    first | rfl | (rw [← hri]; rfl)
  · rw [if_neg h0, if_neg h0]
    have hqz : ((q : Int) == 0) = false := by rw [beq_eq_false_iff_ne]; omega
    go_enter Tryz.func182, Tryz.ntmps182
    go_wp2_with fail
    go_quiet (fail)
    go_wp2
    go_quiet (fail)
    go_wp2
    go_ret2
    refine ⟨?_, below_dn (below_dn hw _) _⟩
    first | rfl | (congr 4 <;> omega) | (rw [Int.natCast_add]; rfl)

set_option maxRecDepth 100000 in
theorem rclass_S (z i : Nat) (sg Q : Int) (w : World) : Calls Tryz.prog 81 #[.agg #[.int .u64 sg, .int .i64 24, .int .i64 (-149), .int .i64 104, .int .u64 (i : Int), .int .u64 Q], .int .u64 (z : Int)] w fun e w' => e = .returned (.int .i64 ((clsN 8388608 i z : Nat) : Int)) ∧ Below w.heap.size w w' := by
  have hw := below_alloc' w (.cells #[.int .u64 sg, .int .i64 24, .int .i64 (-149), .int .i64 104, .int .u64 (i : Int), .int .u64 Q] 122)
  have hc : clsN 8388608 i z = if z = 0 then 0 else if z < 8388608 then 1 else if z < i then 2 else if z = i then 3 else 4 := rfl
  by_cases h0 : z = 0
  · rw [if_pos h0] at hc
    rw [hc]
    have hb : ((z : Int) == 0) = true := by rw [beq_iff_eq]; omega
    clear hc h0
    go_enter Tryz.func81, Tryz.ntmps81
    go_wp2
    go_ret
    exact ⟨rfl, hw⟩
  have hz : ((z : Int) == 0) = false := by rw [beq_eq_false_iff_ne]; omega
  rw [if_neg h0] at hc
  by_cases h1 : z < 8388608
  · rw [if_pos h1] at hc
    rw [hc]
    have hl : (z : Int) < 8388608 := by omega
    clear hc h0 h1
    go_enter Tryz.func81, Tryz.ntmps81
    go_wp2
    go_ret
    exact ⟨rfl, hw⟩
  have hl : ¬ (z : Int) < 8388608 := by omega
  rw [if_neg h1] at hc
  by_cases h2 : z < i
  · rw [if_pos h2] at hc
    rw [hc]
    have hl2 : (z : Int) < (i : Int) := by omega
    clear hc h0 h1 h2
    go_enter Tryz.func81, Tryz.ntmps81
    go_wp2
    go_ret
    exact ⟨rfl, hw⟩
  have hl2 : ¬ (z : Int) < (i : Int) := by omega
  rw [if_neg h2] at hc
  by_cases h3 : z = i
  · rw [if_pos h3] at hc
    rw [hc]
    have hb : ((z : Int) == (i : Int)) = true := by rw [beq_iff_eq]; omega
    clear hc h0 h1 h2 h3
    go_enter Tryz.func81, Tryz.ntmps81
    go_wp2
    go_ret
    exact ⟨rfl, hw⟩
  have hb : ((z : Int) == (i : Int)) = false := by rw [beq_eq_false_iff_ne]; omega
  rw [if_neg h3] at hc
  rw [hc]
  clear hc h0 h1 h2 h3
  go_enter Tryz.func81, Tryz.ntmps81
  go_wp2
  go_ret
  exact ⟨rfl, hw⟩

set_option maxRecDepth 100000 in
theorem rclass_D (z i : Nat) (sg Q : Int) (w : World) : Calls Tryz.prog 81 #[.agg #[.int .u64 sg, .int .i64 53, .int .i64 (-1074), .int .i64 971, .int .u64 (i : Int), .int .u64 Q], .int .u64 (z : Int)] w fun e w' => e = .returned (.int .i64 ((clsN 4503599627370496 i z : Nat) : Int)) ∧ Below w.heap.size w w' := by
  have hw := below_alloc' w (.cells #[.int .u64 sg, .int .i64 53, .int .i64 (-1074), .int .i64 971, .int .u64 (i : Int), .int .u64 Q] 122)
  have hc : clsN 4503599627370496 i z = if z = 0 then 0 else if z < 4503599627370496 then 1 else if z < i then 2 else if z = i then 3 else 4 := rfl
  by_cases h0 : z = 0
  · rw [if_pos h0] at hc
    rw [hc]
    have hb : ((z : Int) == 0) = true := by rw [beq_iff_eq]; omega
    clear hc h0
    go_enter Tryz.func81, Tryz.ntmps81
    go_wp2
    go_ret
    exact ⟨rfl, hw⟩
  have hz : ((z : Int) == 0) = false := by rw [beq_eq_false_iff_ne]; omega
  rw [if_neg h0] at hc
  by_cases h1 : z < 4503599627370496
  · rw [if_pos h1] at hc
    rw [hc]
    have hl : (z : Int) < 4503599627370496 := by omega
    clear hc h0 h1
    go_enter Tryz.func81, Tryz.ntmps81
    go_wp2
    go_ret
    exact ⟨rfl, hw⟩
  have hl : ¬ (z : Int) < 4503599627370496 := by omega
  rw [if_neg h1] at hc
  by_cases h2 : z < i
  · rw [if_pos h2] at hc
    rw [hc]
    have hl2 : (z : Int) < (i : Int) := by omega
    clear hc h0 h1 h2
    go_enter Tryz.func81, Tryz.ntmps81
    go_wp2
    go_ret
    exact ⟨rfl, hw⟩
  have hl2 : ¬ (z : Int) < (i : Int) := by omega
  rw [if_neg h2] at hc
  by_cases h3 : z = i
  · rw [if_pos h3] at hc
    rw [hc]
    have hb : ((z : Int) == (i : Int)) = true := by rw [beq_iff_eq]; omega
    clear hc h0 h1 h2 h3
    go_enter Tryz.func81, Tryz.ntmps81
    go_wp2
    go_ret
    exact ⟨rfl, hw⟩
  have hb : ((z : Int) == (i : Int)) = false := by rw [beq_eq_false_iff_ne]; omega
  rw [if_neg h3] at hc
  rw [hc]
  clear hc h0 h1 h2 h3
  go_enter Tryz.func81, Tryz.ntmps81
  go_wp2
  go_ret
  exact ⟨rfl, hw⟩

set_option maxRecDepth 100000 in
theorem docclass_S (b : Nat) (hb : b < 4294967296) (w : World) : Calls Tryz.prog 36 #[.int .i64 32, .int .u64 (b : Int)] w fun e w' => e = .returned (.tuple #[.int .i64 ((clsN 8388608 2139095040 (b % 2147483648) : Nat) : Int), .int .i64 0]) ∧ Below w.heap.size w w' := by
  have HCh := Lib.hid (fun W => rchk_S b hb W)
  have HCu := Lib.hid (fun W => rcut_S b (by omega) W)
  have HCl := Lib.hid (fun z W => rclass_S z 2139095040 2147483648 2143289345 W)
  obtain ⟨ng, hng⟩ : ∃ ng, decide (2147483648 ≤ b) = ng := ⟨_, rfl⟩
  obtain ⟨z, hz⟩ : ∃ z, b % 2147483648 = z := ⟨_, rfl⟩
  rw [hng, hz] at HCu
  rw [hz]
  have hOf := rof07_S
  rw [show ((2139095040 : Nat) : Int) = 2139095040 from rfl] at HCl
  obtain ⟨sg, hsg⟩ : ∃ sg : Int, (2147483648 : Int) = sg := ⟨_, rfl⟩
  obtain ⟨fi, hfi⟩ : ∃ fi : Int, (2139095040 : Int) = fi := ⟨_, rfl⟩
  obtain ⟨fq, hfq⟩ : ∃ fq : Int, (2143289345 : Int) = fq := ⟨_, rfl⟩
  simp only [hsg, hfi, hfq] at hOf HCu HCl
  have HOf := Lib.hid hOf
  clear hb hng hz hOf hsg hfi hfq
  go_enter Tryz.func36, Tryz.ntmps36
  go_wp2_with fail
  refine (HCh.out _).mono ?_
  rintro e w1 ⟨rfl, hb1⟩
  have HB1 := Lib.hid hb1
  clear hb1
  go_wp2_with fail
  refine (HOf.out _).mono ?_
  rintro e w2 ⟨rfl, hb2⟩
  have HB2 := Lib.hid (below_chain HB1.out hb2)
  clear hb2 HB1
  obtain ⟨X, hX, hz, r0, r1, r2, r3, r4, r5, _⟩ := box6_new w2 (.int .u64 sg) (.int .i64 24) (.int .i64 (-149)) (.int .i64 104) (.int .u64 fi) (.int .u64 fq) 122
  have hBX := below_alloc' w2 (.cells #[.int .u64 sg, .int .i64 24, .int .i64 (-149), .int .i64 104, .int .u64 fi, .int .u64 fq] 122)
  rw [← hX] at hBX
  have HB3 := Lib.hid (below_chain HB2.out hBX)
  have HX := Lib.hid hX
  have HZ := Lib.hid hz
  clear hBX HB2 hX hz
  go_wp2_with fail
  rw [← HX.out]
  refine (HCu.out _).mono ?_
  rintro e w4 ⟨rfl, hb4⟩
  have HB4 := Lib.hid (below_chain HB3.out hb4)
  have k0 := cell_kept hb4 r0
  have k1 := cell_kept hb4 r1
  have k2 := cell_kept hb4 r2
  have k3 := cell_kept hb4 r3
  have k4 := cell_kept hb4 r4
  have k5 := cell_kept hb4 r5
  clear r0 r1 r2 r3 r4 r5 hb4 HB3
  go_wp2_with fail
  refine (HCl.out _ _).mono ?_
  rintro e w5 ⟨rfl, hb5⟩
  go_wp2
  go_ret2
  exact ⟨rfl, below_chain HB4.out hb5⟩

set_option maxRecDepth 100000 in
theorem docclass_D (b : Nat) (hb : b < 18446744073709551616) (w : World) : Calls Tryz.prog 36 #[.int .i64 64, .int .u64 (b : Int)] w fun e w' => e = .returned (.tuple #[.int .i64 ((clsN 4503599627370496 9218868437227405312 (b % 9223372036854775808) : Nat) : Int), .int .i64 0]) ∧ Below w.heap.size w w' := by
  have HCh := Lib.hid (fun W => rchk_D b hb W)
  have HCu := Lib.hid (fun W => rcut_D b (by omega) W)
  have HCl := Lib.hid (fun z W => rclass_D z 9218868437227405312 9223372036854775808 9221120237041090561 W)
  obtain ⟨ng, hng⟩ : ∃ ng, decide (9223372036854775808 ≤ b) = ng := ⟨_, rfl⟩
  obtain ⟨z, hz⟩ : ∃ z, b % 9223372036854775808 = z := ⟨_, rfl⟩
  rw [hng, hz] at HCu
  rw [hz]
  have hOf := rof07_D
  rw [show ((9218868437227405312 : Nat) : Int) = 9218868437227405312 from rfl] at HCl
  obtain ⟨sg, hsg⟩ : ∃ sg : Int, (9223372036854775808 : Int) = sg := ⟨_, rfl⟩
  obtain ⟨fi, hfi⟩ : ∃ fi : Int, (9218868437227405312 : Int) = fi := ⟨_, rfl⟩
  obtain ⟨fq, hfq⟩ : ∃ fq : Int, (9221120237041090561 : Int) = fq := ⟨_, rfl⟩
  simp only [hsg, hfi, hfq] at hOf HCu HCl
  have HOf := Lib.hid hOf
  clear hb hng hz hOf hsg hfi hfq
  go_enter Tryz.func36, Tryz.ntmps36
  go_wp2_with fail
  refine (HCh.out _).mono ?_
  rintro e w1 ⟨rfl, hb1⟩
  have HB1 := Lib.hid hb1
  clear hb1
  go_wp2_with fail
  refine (HOf.out _).mono ?_
  rintro e w2 ⟨rfl, hb2⟩
  have HB2 := Lib.hid (below_chain HB1.out hb2)
  clear hb2 HB1
  obtain ⟨X, hX, hz, r0, r1, r2, r3, r4, r5, _⟩ := box6_new w2 (.int .u64 sg) (.int .i64 53) (.int .i64 (-1074)) (.int .i64 971) (.int .u64 fi) (.int .u64 fq) 122
  have hBX := below_alloc' w2 (.cells #[.int .u64 sg, .int .i64 53, .int .i64 (-1074), .int .i64 971, .int .u64 fi, .int .u64 fq] 122)
  rw [← hX] at hBX
  have HB3 := Lib.hid (below_chain HB2.out hBX)
  have HX := Lib.hid hX
  have HZ := Lib.hid hz
  clear hBX HB2 hX hz
  go_wp2_with fail
  rw [← HX.out]
  refine (HCu.out _).mono ?_
  rintro e w4 ⟨rfl, hb4⟩
  have HB4 := Lib.hid (below_chain HB3.out hb4)
  have k0 := cell_kept hb4 r0
  have k1 := cell_kept hb4 r1
  have k2 := cell_kept hb4 r2
  have k3 := cell_kept hb4 r3
  have k4 := cell_kept hb4 r4
  have k5 := cell_kept hb4 r5
  clear r0 r1 r2 r3 r4 r5 hb4 HB3
  go_wp2_with fail
  refine (HCl.out _ _).mono ?_
  rintro e w5 ⟨rfl, hb5⟩
  go_wp2
  go_ret2
  exact ⟨rfl, below_chain HB4.out hb5⟩
end Go.Proofs.YtmfjimmodaofdaaGreatDoor
