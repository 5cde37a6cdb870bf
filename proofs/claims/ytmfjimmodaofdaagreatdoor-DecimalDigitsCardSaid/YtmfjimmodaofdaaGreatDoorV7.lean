/- Walks of gnomonref07: Of, Check, Cut, Parts, ClassOf, DocClass. -/
import Derived.Test.YtmfjimmodaofdaaGreatDoorBc
namespace Go.Proofs.YtmfjimmodaofdaaGreatDoor
open Go.RowKit
theorem box6_new (w : World) (v0 v1 v2 v3 v4 v5 : Value) (t : TypeId) : ∃ W, W = w.alloc (.cells #[v0, v1, v2, v3, v4, v5] t) ∧ W.heap.size = w.heap.size + 1 ∧ W.cell? ⟨w.heap.size, 0, none⟩ = some v0 ∧ W.cell? ⟨w.heap.size, 1, none⟩ = some v1 ∧ W.cell? ⟨w.heap.size, 2, none⟩ = some v2 ∧ W.cell? ⟨w.heap.size, 3, none⟩ = some v3 ∧ W.cell? ⟨w.heap.size, 4, none⟩ = some v4 ∧ W.cell? ⟨w.heap.size, 5, none⟩ = some v5 ∧
    W.frozen? ⟨w.heap.size, 0, none⟩ = false ∧ W.frozen? ⟨w.heap.size, 1, none⟩ = false ∧ W.frozen? ⟨w.heap.size, 2, none⟩ = false ∧ W.frozen? ⟨w.heap.size, 3, none⟩ = false ∧ W.frozen? ⟨w.heap.size, 4, none⟩ = false ∧ W.frozen? ⟨w.heap.size, 5, none⟩ = false :=
  ⟨_, rfl, by simp, by simp, by simp, by simp, by simp, by simp, by simp, by simp, by simp, by simp, by simp, by simp, by simp⟩

set_option maxRecDepth 100000 in
set_option maxHeartbeats 1000000 in
theorem rof07_S (w : World) : Calls Tryz.prog 79 #[.int .i64 32] w fun e w' => e = .returned (.tuple #[.agg #[.int .u64 2147483648, .int .i64 24, .int .i64 (-149), .int .i64 104, .int .u64 2139095040, .int .u64 2143289345], .bool true]) ∧ Below w.heap.size w w' := by
  go_enter Tryz.func79, Tryz.ntmps79
  go_wp2
  obtain ⟨X, hX, hz, r0, r1, r2, r3, r4, r5, _⟩ := box6_new w (.int .u64 2147483648) (.int .i64 24) (.int .i64 (-149)) (.int .i64 104) (.int .u64 2139095040) (.int .u64 2143289345) 122
  have hBX := below_alloc' w (.cells #[.int .u64 2147483648, .int .i64 24, .int .i64 (-149), .int .i64 104, .int .u64 2139095040, .int .u64 2143289345] 122)
  rw [← hX] at hBX ⊢
  clear hX
  exact bodyPost_ret (v := .tuple #[.agg #[.int .u64 2147483648, .int .i64 24, .int .i64 (-149), .int .i64 104, .int .u64 2139095040, .int .u64 2143289345], .bool true]) (by simp [results, Tryz.results79, go_sem, r0, r1, r2, r3, r4, r5]) rfl ⟨rfl, hBX⟩

set_option maxRecDepth 100000 in
set_option maxHeartbeats 1000000 in
theorem rof07_D (w : World) : Calls Tryz.prog 79 #[.int .i64 64] w fun e w' => e = .returned (.tuple #[.agg #[.int .u64 9223372036854775808, .int .i64 53, .int .i64 (-1074), .int .i64 971, .int .u64 9218868437227405312, .int .u64 9221120237041090561], .bool true]) ∧ Below w.heap.size w w' := by
  go_enter Tryz.func79, Tryz.ntmps79
  go_wp2
  obtain ⟨X, hX, hz, r0, r1, r2, r3, r4, r5, _⟩ := box6_new w (.int .u64 9223372036854775808) (.int .i64 53) (.int .i64 (-1074)) (.int .i64 971) (.int .u64 9218868437227405312) (.int .u64 9221120237041090561) 122
  have hBX := below_alloc' w (.cells #[.int .u64 9223372036854775808, .int .i64 53, .int .i64 (-1074), .int .i64 971, .int .u64 9218868437227405312, .int .u64 9221120237041090561] 122)
  rw [← hX] at hBX ⊢
  clear hX
  exact bodyPost_ret (v := .tuple #[.agg #[.int .u64 9223372036854775808, .int .i64 53, .int .i64 (-1074), .int .i64 971, .int .u64 9218868437227405312, .int .u64 9221120237041090561], .bool true]) (by simp [results, Tryz.results79, go_sem, r0, r1, r2, r3, r4, r5]) rfl ⟨rfl, hBX⟩

set_option maxRecDepth 100000 in
set_option maxHeartbeats 1000000 in
theorem rof07_no (f : Int) (h1 : f ≠ 32) (h2 : f ≠ 64) (w : World) : Calls Tryz.prog 79 #[.int .i64 f] w fun e w' => e = .returned (.tuple #[.agg #[.int .u64 0, .int .i64 0, .int .i64 0, .int .i64 0, .int .u64 0, .int .u64 0], .bool false]) ∧ Below w.heap.size w w' := by
  obtain ⟨e1, e2⟩ := no_fmt h1 h2
  go_enter Tryz.func79, Tryz.ntmps79
  go_wp2
  obtain ⟨X, hX, hz, r0, r1, r2, r3, r4, r5, _⟩ := box6_new w (.int .u64 0) (.int .i64 0) (.int .i64 0) (.int .i64 0) (.int .u64 0) (.int .u64 0) 122
  have hBX := below_alloc' w (.cells #[.int .u64 0, .int .i64 0, .int .i64 0, .int .i64 0, .int .u64 0, .int .u64 0] 122)
  rw [← hX] at hBX ⊢
  clear hX
  exact bodyPost_ret (v := .tuple #[.agg #[.int .u64 0, .int .i64 0, .int .i64 0, .int .i64 0, .int .u64 0, .int .u64 0], .bool false]) (by simp [results, Tryz.results79, go_sem, r0, r1, r2, r3, r4, r5]) rfl ⟨rfl, hBX⟩

set_option maxRecDepth 100000 in
theorem rcut_S (b : Nat) (hb : b < 18446744073709551616) (w : World) : Calls Tryz.prog 80 #[.agg #[.int .u64 2147483648, .int .i64 24, .int .i64 (-149), .int .i64 104, .int .u64 2139095040, .int .u64 2143289345], .int .u64 (b : Int)] w fun e w' => e = .returned (.tuple #[.bool (decide (2147483648 ≤ b)), .int .u64 ((b % 2147483648 : Nat) : Int)]) ∧ Below w.heap.size w w' := by
  have hw := below_alloc' w (.cells #[.int .u64 2147483648, .int .i64 24, .int .i64 (-149), .int .i64 104, .int .u64 2139095040, .int .u64 2143289345] 122)
  have e1 : decide ((2147483648 : Int) ≤ (b : Int)) = decide (2147483648 ≤ b) := by rw [decide_eq_decide]; omega
  have e2 : (b : Int) % 2147483648 = ((b % 2147483648 : Nat) : Int) := by omega
  have HE1 := Lib.hid e1
  have HE2 := Lib.hid e2
  clear e1 e2 hb
  go_enter Tryz.func80, Tryz.ntmps80
  go_wp2_with fail
  go_quiet (fail)
  go_wp2
  go_ret2
  exact ⟨by rw [← HE1.out, ← HE2.out]; rfl, below_dn hw _⟩

set_option maxRecDepth 100000 in
theorem rcut_D (b : Nat) (hb : b < 18446744073709551616) (w : World) : Calls Tryz.prog 80 #[.agg #[.int .u64 9223372036854775808, .int .i64 53, .int .i64 (-1074), .int .i64 971, .int .u64 9218868437227405312, .int .u64 9221120237041090561], .int .u64 (b : Int)] w fun e w' => e = .returned (.tuple #[.bool (decide (9223372036854775808 ≤ b)), .int .u64 ((b % 9223372036854775808 : Nat) : Int)]) ∧ Below w.heap.size w w' := by
  have hw := below_alloc' w (.cells #[.int .u64 9223372036854775808, .int .i64 53, .int .i64 (-1074), .int .i64 971, .int .u64 9218868437227405312, .int .u64 9221120237041090561] 122)
  have e1 : decide ((9223372036854775808 : Int) ≤ (b : Int)) = decide (9223372036854775808 ≤ b) := by rw [decide_eq_decide]; omega
  have e2 : (b : Int) % 9223372036854775808 = ((b % 9223372036854775808 : Nat) : Int) := by omega
  have HE1 := Lib.hid e1
  have HE2 := Lib.hid e2
  clear e1 e2 hb
  go_enter Tryz.func80, Tryz.ntmps80
  go_wp2_with fail
  go_quiet (fail)
  go_wp2
  go_ret2
  exact ⟨by rw [← HE1.out, ← HE2.out]; rfl, below_dn hw _⟩
set_option maxRecDepth 100000 in
theorem rchk_S (b : Nat) (hb : b < 4294967296) (w : World) : Calls Tryz.prog 78 #[.int .i64 32, .int .u64 (b : Int)] w fun e w' => e = .returned (.int .i64 0) ∧ Below w.heap.size w w' := by
  obtain ⟨sg, hsg⟩ : ∃ sg : Int, (2147483648 : Int) = sg := ⟨_, rfl⟩
  have h : (b : Int) / 2 < sg := by omega
  have hOf := rof07_S
  simp only [hsg] at hOf
  have HOf := Lib.hid hOf
  have hwr : IntKind.u64.wrap ((b : Int) / 2) = (b : Int) / 2 := by rw [IntKind.wrap_u64]; omega
  clear hb hsg hOf
  go_enter Tryz.func78, Tryz.ntmps78
  go_wp2_with fail
  refine (HOf.out _).mono ?_
  rintro e w1 ⟨rfl, hb1⟩
  go_wp2
  go_ret
  exact ⟨rfl, below_chain hb1 (below_alloc' w1 _)⟩

set_option maxRecDepth 100000 in
theorem rchk_wide (b : Nat) (hb0 : b < 18446744073709551616) (hb : 4294967296 ≤ b) (w : World) : Calls Tryz.prog 78 #[.int .i64 32, .int .u64 (b : Int)] w fun e w' => e = .returned (.int .i64 2) ∧ Below w.heap.size w w' := by
  obtain ⟨sg, hsg⟩ : ∃ sg : Int, (2147483648 : Int) = sg := ⟨_, rfl⟩
  have h : sg ≤ (b : Int) / 2 := by omega
  have hOf := rof07_S
  simp only [hsg] at hOf
  have HOf := Lib.hid hOf
  have hwr : IntKind.u64.wrap ((b : Int) / 2) = (b : Int) / 2 := by rw [IntKind.wrap_u64]; omega
  clear hb hb0 hsg hOf
  go_enter Tryz.func78, Tryz.ntmps78
  go_wp2_with fail
  refine (HOf.out _).mono ?_
  rintro e w1 ⟨rfl, hb1⟩
  go_wp2
  go_ret
  exact ⟨rfl, below_chain hb1 (below_alloc' w1 _)⟩

set_option maxRecDepth 100000 in
theorem rchk_D (b : Nat) (hb : b < 18446744073709551616) (w : World) : Calls Tryz.prog 78 #[.int .i64 64, .int .u64 (b : Int)] w fun e w' => e = .returned (.int .i64 0) ∧ Below w.heap.size w w' := by
  obtain ⟨sg, hsg⟩ : ∃ sg : Int, (9223372036854775808 : Int) = sg := ⟨_, rfl⟩
  have h : (b : Int) / 2 < sg := by omega
  have hOf := rof07_D
  simp only [hsg] at hOf
  have HOf := Lib.hid hOf
  have hwr : IntKind.u64.wrap ((b : Int) / 2) = (b : Int) / 2 := by rw [IntKind.wrap_u64]; omega
  clear hb hsg hOf
  go_enter Tryz.func78, Tryz.ntmps78
  go_wp2_with fail
  refine (HOf.out _).mono ?_
  rintro e w1 ⟨rfl, hb1⟩
  go_wp2
  go_ret
  exact ⟨rfl, below_chain hb1 (below_alloc' w1 _)⟩

set_option maxRecDepth 100000 in
theorem rchk_no (f : Int) (h1 : f ≠ 32) (h2 : f ≠ 64) (b : Nat) (w : World) : Calls Tryz.prog 78 #[.int .i64 f, .int .u64 (b : Int)] w fun e w' => e = .returned (.int .i64 1) ∧ Below w.heap.size w w' := by
  go_enter Tryz.func78, Tryz.ntmps78
  go_wp2_with fail
  refine (rof07_no f h1 h2 _).mono ?_
  rintro e w1 ⟨rfl, hb1⟩
  go_wp2
  go_ret
  exact ⟨rfl, below_chain hb1 (below_alloc' w1 _)⟩

set_option maxRecDepth 100000 in
theorem rparts_S (z : Nat) (hz : z < 2147483648) (w : World) : Calls Tryz.prog 182 #[.agg #[.int .u64 2147483648, .int .i64 24, .int .i64 (-149), .int .i64 104, .int .u64 2139095040, .int .u64 2143289345], .int .u64 (z : Int)] w fun e w' => e = .returned (.tuple #[.int .u64 ((ptM 8388608 z : Nat) : Int), .int .i64 (ptE 8388608 (-149) z)]) ∧ Below w.heap.size w w' := by
  have hw := below_alloc' w (.cells #[.int .u64 2147483648, .int .i64 24, .int .i64 (-149), .int .i64 104, .int .u64 2139095040, .int .u64 2143289345] 122)
  obtain ⟨q, hq⟩ : ∃ q, z / 8388608 = q := ⟨_, rfl⟩
  obtain ⟨r, hr⟩ : ∃ r, z % 8388608 = r := ⟨_, rfl⟩
  have hqi : (z : Int) / 8388608 = (q : Int) := by omega
  have hri : (z : Int) % 8388608 = (r : Int) := by omega
  have hqb : q < 4096 := by omega
  have hrb : r < 8388608 := by omega
  have hM : ptM 8388608 z = if q = 0 then r else 8388608 + r := by unfold ptM; rw [hq, hr]
  have hE : ptE 8388608 (-149) z = if q = 0 then ((-149) : Int) else ((-149) : Int) + (q : Int) - 1 := by unfold ptE; rw [hq]
  rw [hM, hE]
  have kw1 : IntKind.u64.wrap (8388608 + (r : Int)) = 8388608 + (r : Int) := by rw [IntKind.wrap_u64]; omega
  have kw2 : IntKind.i64.wrap (q : Int) = (q : Int) := by rw [IntKind.wrap_i64]; omega
  have kw3 : IntKind.i64.wrap (((-149) : Int) + (q : Int)) = ((-149) : Int) + (q : Int) := by rw [IntKind.wrap_i64]; omega
  have kw4 : IntKind.i64.wrap (((-149) : Int) + (q : Int) - 1) = ((-149) : Int) + (q : Int) - 1 := by rw [IntKind.wrap_i64]; omega
  clear hq hr hM hE hz
  by_cases h0 : q = 0
  · rw [if_pos h0, if_pos h0]
    subst h0
    go_enter Tryz.func182, Tryz.ntmps182
    go_wp2_with fail
    go_quiet (fail)
    go_wp2
    go_quiet (fail)
    go_wp2
    go_ret2
    refine ⟨?_, below_dn (below_dn hw _) _⟩
    first | rfl | (rw [← hri]; rfl)
  · rw [if_neg h0, if_neg h0]
    have hqz : ((q : Int) == 0) = false := by rw [beq_eq_false_iff_ne]; omega
    go_enter Tryz.func182, Tryz.ntmps182
    go_wp2_with fail
    go_quiet (fail)
    go_wp2
    go_quiet (fail)
    go_wp2
    go_ret2
    refine ⟨?_, below_dn (below_dn hw _) _⟩
    first | rfl | (congr 4 <;> omega) | (rw [Int.natCast_add]; rfl)

set_option maxRecDepth 100000 in
theorem rparts_D (z : Nat) (hz : z < 9223372036854775808) (w : World) : Calls Tryz.prog 182 #[.agg #[.int .u64 9223372036854775808, .int .i64 53, .int .i64 (-1074), .int .i64 971, .int .u64 9218868437227405312, .int .u64 9221120237041090561], .int .u64 (z : Int)] w fun e w' => e = .returned (.tuple #[.int .u64 ((ptM 4503599627370496 z : Nat) : Int), .int .i64 (ptE 4503599627370496 (-1074) z)]) ∧ Below w.heap.size w w' := by
  have hw := below_alloc' w (.cells #[.int .u64 9223372036854775808, .int .i64 53, .int .i64 (-1074), .int .i64 971, .int .u64 9218868437227405312, .int .u64 9221120237041090561] 122)
  obtain ⟨q, hq⟩ : ∃ q, z / 4503599627370496 = q := ⟨_, rfl⟩
  obtain ⟨r, hr⟩ : ∃ r, z % 4503599627370496 = r := ⟨_, rfl⟩
  have hqi : (z : Int) / 4503599627370496 = (q : Int) := by omega
  have hri : (z : Int) % 4503599627370496 = (r : Int) := by omega
  have hqb : q < 4096 := by omega
  have hrb : r < 4503599627370496 := by omega
  have hM : ptM 4503599627370496 z = if q = 0 then r else 4503599627370496 + r := by unfold ptM; rw [hq, hr]
  have hE : ptE 4503599627370496 (-1074) z = if q = 0 then ((-1074) : Int) else ((-1074) : Int) + (q : Int) - 1 := by unfold ptE; rw [hq]
  rw [hM, hE]
  have kw1 : IntKind.u64.wrap (4503599627370496 + (r : Int)) = 4503599627370496 + (r : Int) := by rw [IntKind.wrap_u64]; omega
  have kw2 : IntKind.i64.wrap (q : Int) = (q : Int) := by rw [IntKind.wrap_i64]; omega
  have kw3 : IntKind.i64.wrap (((-1074) : Int) + (q : Int)) = ((-1074) : Int) + (q : Int) := by rw [IntKind.wrap_i64]; omega
  have kw4 : IntKind.i64.wrap (((-1074) : Int) + (q : Int) - 1) = ((-1074) : Int) + (q : Int) - 1 := by rw [IntKind.wrap_i64]; omega
  clear hq hr hM hE hz
  by_cases h0 : q = 0
  · rw [if_pos h0, if_pos h0]
    subst h0
    go_enter Tryz.func182, Tryz.ntmps182
    go_wp2_with fail
    go_quiet (fail)
    go_wp2
    go_quiet (fail)
    go_wp2
    go_ret2
    refine ⟨?_, below_dn (below_dn hw _) _⟩
    first | rfl | (rw [← hri]; rfl)
  · rw [if_neg h0, if_neg h0]
    have hqz : ((q : Int) == 0) = false := by rw [beq_eq_false_iff_ne]; omega
    go_enter Tryz.func182, Tryz.ntmps182
    go_wp2_with fail
    go_quiet (fail)
    go_wp2
    go_quiet (fail)
    go_wp2
    go_ret2
    refine ⟨?_, below_dn (below_dn hw _) _⟩
    first | rfl | (congr 4 <;> omega) | (rw [Int.natCast_add]; rfl)

end Go.Proofs.YtmfjimmodaofdaaGreatDoor
