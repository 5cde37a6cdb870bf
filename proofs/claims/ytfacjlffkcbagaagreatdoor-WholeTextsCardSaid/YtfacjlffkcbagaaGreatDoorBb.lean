/- Walks of binary: class, finite, parts, ClassOf, Split (printed by gen_bin.py). -/
import Derived.Test.YtfacjlffkcbagaaGreatDoorBa
namespace Go.Proofs.YtfacjlffkcbagaaGreatDoor
open Go.RowKit

/-- The mantissa and the exponent of a size. -/
def ptM (hi z : Nat) : Nat := if z / hi = 0 then z % hi else hi + z % hi
def ptE (hi : Nat) (lo : Int) (z : Nat) : Int := if z / hi = 0 then lo else lo + ((z / hi : Nat) : Int) - 1

set_option maxRecDepth 100000 in
theorem class_S (z : Nat) (w : World) : Calls Tryz.prog 49 #[.agg #[.int .i64 32, .int .i64 24, .int .i64 (-149), .int .u64 2143289345], .int .u64 (z : Int)] w fun e w' => e = .returned (.int .i64 ((clsN 8388608 2139095040 z : Nat) : Int)) ∧ Below w.heap.size w w' := by
  have hb0 := below_alloc' w (.cells #[.int .i64 32, .int .i64 24, .int .i64 (-149), .int .u64 2143289345] 70)
  have hc : clsN 8388608 2139095040 z = if z = 0 then 0 else if z < 8388608 then 1 else if z < 2139095040 then 2 else if z = 2139095040 then 3 else 4 := rfl
  by_cases h0 : z = 0
  · rw [if_pos h0] at hc
    rw [hc]
    have hb : ((z : Int) == 0) = true := by rw [beq_iff_eq]; omega
    clear hc
    go_enter Tryz.func49, Tryz.ntmps49
    go_wp2
    go_ret
    exact ⟨rfl, hb0⟩
  have hz : ((z : Int) == 0) = false := by rw [beq_eq_false_iff_ne]; omega
  rw [if_neg h0] at hc
  by_cases h1 : z < 8388608
  · rw [if_pos h1] at hc
    rw [hc]
    have hl : (z : Int) < 8388608 := by omega
    clear hc
    go_enter Tryz.func49, Tryz.ntmps49
    go_wp2_with fail
    refine (shidden_S _).mono ?_
    rintro e w1 ⟨rfl, hb1⟩
    go_wp2
    go_ret
    exact ⟨rfl, below_chain hb0 hb1⟩
  have hl : 8388608 ≤ (z : Int) := by omega
  rw [if_neg h1] at hc
  by_cases h2 : z < 2139095040
  · rw [if_pos h2] at hc
    rw [hc]
    obtain ⟨nf, hnf⟩ : ∃ nf : Int, (2139095040 : Int) = nf := ⟨_, rfl⟩
    have hl2 : (z : Int) < nf := by omega
    have HNF := Lib.hid hnf
    clear hc h0 h1 h2 hnf
    go_enter Tryz.func49, Tryz.ntmps49
    go_wp2_with fail
    refine (shidden_S _).mono ?_
    rintro e w1 ⟨rfl, hb1⟩
    generalize (8388608 : Int) = hi at hl ⊢
    have y0 : w1.cell? ⟨w.heap.size, 0, none⟩ = some (.int .i64 32) := cell_kept hb1 (by first | assumption | simp)
    have y1 : w1.cell? ⟨w.heap.size, 1, none⟩ = some (.int .i64 24) := cell_kept hb1 (by first | assumption | simp)
    have y2 : w1.cell? ⟨w.heap.size, 2, none⟩ = some (.int .i64 (-149)) := cell_kept hb1 (by first | assumption | simp)
    have y3 : w1.cell? ⟨w.heap.size, 3, none⟩ = some (.int .u64 2143289345) := cell_kept hb1 (by first | assumption | simp)
    go_wp2_with fail
    refine (sinf_S _).mono ?_
    rintro e w2 ⟨rfl, hb2⟩
    rw [HNF.out]
    go_wp2
    go_ret
    exact ⟨rfl, below_chain (below_chain hb0 hb1) hb2⟩
  have hl2 : 2139095040 ≤ (z : Int) := by omega
  rw [if_neg h2] at hc
  obtain ⟨q, hq⟩ : ∃ q, decide (z = 2139095040) = q := ⟨_, rfl⟩
  have hqi : ((z : Int) == 2139095040) = q := by
    rw [← hq, Bool.eq_iff_iff, beq_iff_eq, decide_eq_true_iff]; omega
  have hc2 : clsN 8388608 2139095040 z = if q = true then 3 else 4 := by rw [hc, ← hq]; simp
  rw [hc2]
  clear hc hc2 hq h0 h1 h2
  cases q
  all_goals
    go_enter Tryz.func49, Tryz.ntmps49
    go_wp2_with fail
    refine (shidden_S _).mono ?_
    rintro e w1 ⟨rfl, hb1⟩
    generalize (8388608 : Int) = hi at hl ⊢
    have y0 : w1.cell? ⟨w.heap.size, 0, none⟩ = some (.int .i64 32) := cell_kept hb1 (by first | assumption | simp)
    have y1 : w1.cell? ⟨w.heap.size, 1, none⟩ = some (.int .i64 24) := cell_kept hb1 (by first | assumption | simp)
    have y2 : w1.cell? ⟨w.heap.size, 2, none⟩ = some (.int .i64 (-149)) := cell_kept hb1 (by first | assumption | simp)
    have y3 : w1.cell? ⟨w.heap.size, 3, none⟩ = some (.int .u64 2143289345) := cell_kept hb1 (by first | assumption | simp)
    go_wp2_with fail
    refine (sinf_S _).mono ?_
    rintro e w2 ⟨rfl, hb2⟩
    have hqj := hqi
    generalize (2139095040 : Int) = nf at hl2 hqj ⊢
    have x0 : w2.cell? ⟨w.heap.size, 0, none⟩ = some (.int .i64 32) := cell_kept hb2 (by first | assumption | simp)
    have x1 : w2.cell? ⟨w.heap.size, 1, none⟩ = some (.int .i64 24) := cell_kept hb2 (by first | assumption | simp)
    have x2 : w2.cell? ⟨w.heap.size, 2, none⟩ = some (.int .i64 (-149)) := cell_kept hb2 (by first | assumption | simp)
    have x3 : w2.cell? ⟨w.heap.size, 3, none⟩ = some (.int .u64 2143289345) := cell_kept hb2 (by first | assumption | simp)
    go_wp2_with fail
    refine (sinf_S _).mono ?_
    rintro e w3 ⟨rfl, hb3⟩
    go_wp2
    go_ret
    exact ⟨rfl, below_chain (below_chain (below_chain hb0 hb1) hb2) hb3⟩

set_option maxRecDepth 100000 in
theorem parts_S (z : Nat) (hz : z < 2147483648) (w : World) : Calls Tryz.prog 64 #[.agg #[.int .i64 32, .int .i64 24, .int .i64 (-149), .int .u64 2143289345], .int .u64 (z : Int)] w fun e w' => e = .returned (.tuple #[.int .u64 ((ptM 8388608 z : Nat) : Int), .int .i64 (ptE 8388608 (-149) z)]) ∧ Below w.heap.size w w' := by
  have hb0 := below_alloc' w (.cells #[.int .i64 32, .int .i64 24, .int .i64 (-149), .int .u64 2143289345] 70)
  obtain ⟨q, hq⟩ : ∃ q, z / 8388608 = q := ⟨_, rfl⟩
  obtain ⟨r, hr⟩ : ∃ r, z % 8388608 = r := ⟨_, rfl⟩
  have hqi : (z : Int) / 8388608 = (q : Int) := by omega
  have hri : (z : Int) % 8388608 = (r : Int) := by omega
  have hqb : q < 4096 := by omega
  have hrb : r < 8388608 := by omega
  have hM : ptM 8388608 z = if q = 0 then r else 8388608 + r := by unfold ptM; rw [hq, hr]
  have hE : ptE 8388608 (-149) z = if q = 0 then ((-149) : Int) else ((-149) : Int) + (q : Int) - 1 := by unfold ptE; rw [hq]
  rw [hM, hE]
  have kw1 : IntKind.u64.wrap (8388608 + (r : Int)) = 8388608 + (r : Int) := by rw [IntKind.wrap_u64]; omega
  have kw2 : IntKind.i64.wrap (q : Int) = (q : Int) := by rw [IntKind.wrap_i64]; omega
  have kw3 : IntKind.i64.wrap (((-149) : Int) + (q : Int)) = ((-149) : Int) + (q : Int) := by rw [IntKind.wrap_i64]; omega
  have kw4 : IntKind.i64.wrap (((-149) : Int) + (q : Int) - 1) = ((-149) : Int) + (q : Int) - 1 := by rw [IntKind.wrap_i64]; omega
  clear hq hr hM hE
  by_cases h0 : q = 0
  · rw [if_pos h0, if_pos h0]
    subst h0
    go_enter Tryz.func64, Tryz.ntmps64
    go_wp2_with fail
    refine (shidden_S _).mono ?_
    rintro e w1 ⟨rfl, hb1⟩
    have y0 : w1.cell? ⟨w.heap.size, 0, none⟩ = some (.int .i64 32) := cell_kept hb1 (by first | assumption | simp)
    have y1 : w1.cell? ⟨w.heap.size, 1, none⟩ = some (.int .i64 24) := cell_kept hb1 (by first | assumption | simp)
    have y2 : w1.cell? ⟨w.heap.size, 2, none⟩ = some (.int .i64 (-149)) := cell_kept hb1 (by first | assumption | simp)
    have y3 : w1.cell? ⟨w.heap.size, 3, none⟩ = some (.int .u64 2143289345) := cell_kept hb1 (by first | assumption | simp)
    go_wp2_with fail
    refine (shidden_S _).mono ?_
    rintro e w2 ⟨rfl, hb2⟩
    have x0 : w2.cell? ⟨w.heap.size, 0, none⟩ = some (.int .i64 32) := cell_kept hb2 (by first | assumption | simp)
    have x1 : w2.cell? ⟨w.heap.size, 1, none⟩ = some (.int .i64 24) := cell_kept hb2 (by first | assumption | simp)
    have x2 : w2.cell? ⟨w.heap.size, 2, none⟩ = some (.int .i64 (-149)) := cell_kept hb2 (by first | assumption | simp)
    have x3 : w2.cell? ⟨w.heap.size, 3, none⟩ = some (.int .u64 2143289345) := cell_kept hb2 (by first | assumption | simp)
    go_wp2
    go_quiet (fail)
    go_wp2
    go_ret2
    refine ⟨?_, below_dn (below_chain (below_chain hb0 hb1) hb2) _⟩
    first | rfl | (rw [← hri]; rfl)
  · rw [if_neg h0, if_neg h0]
    have hqz : ((q : Int) == 0) = false := by rw [beq_eq_false_iff_ne]; omega
    go_enter Tryz.func64, Tryz.ntmps64
    go_wp2_with fail
    refine (shidden_S _).mono ?_
    rintro e w1 ⟨rfl, hb1⟩
    have y0 : w1.cell? ⟨w.heap.size, 0, none⟩ = some (.int .i64 32) := cell_kept hb1 (by first | assumption | simp)
    have y1 : w1.cell? ⟨w.heap.size, 1, none⟩ = some (.int .i64 24) := cell_kept hb1 (by first | assumption | simp)
    have y2 : w1.cell? ⟨w.heap.size, 2, none⟩ = some (.int .i64 (-149)) := cell_kept hb1 (by first | assumption | simp)
    have y3 : w1.cell? ⟨w.heap.size, 3, none⟩ = some (.int .u64 2143289345) := cell_kept hb1 (by first | assumption | simp)
    go_wp2_with fail
    refine (shidden_S _).mono ?_
    rintro e w2 ⟨rfl, hb2⟩
    have hw2 := below_chain (below_chain hb0 hb1) hb2
    have hbx := below_chain (below_chain hb1 hb2) (below_draw' w2)
    have HB := Lib.hid hbx
    have HWd := Lib.hid hw2.drew
    have x0 : w2.cell? ⟨w.heap.size, 0, none⟩ = some (.int .i64 32) := cell_kept hb2 (by first | assumption | simp)
    have x1 : w2.cell? ⟨w.heap.size, 1, none⟩ = some (.int .i64 24) := cell_kept hb2 (by first | assumption | simp)
    have x2 : w2.cell? ⟨w.heap.size, 2, none⟩ = some (.int .i64 (-149)) := cell_kept hb2 (by first | assumption | simp)
    have x3 : w2.cell? ⟨w.heap.size, 3, none⟩ = some (.int .u64 2143289345) := cell_kept hb2 (by first | assumption | simp)
    go_wp2_with fail
    go_region_held3 (fun w' => w'.cell? ⟨w.heap.size, 0, none⟩ = some (.int .i64 32) ∧ w'.cell? ⟨w.heap.size, 1, none⟩ = some (.int .i64 24) ∧ w'.cell? ⟨w.heap.size, 2, none⟩ = some (.int .i64 (-149)) ∧ w'.cell? ⟨w.heap.size, 3, none⟩ = some (.int .u64 2143289345) ∧ Hid (Below w.heap.size w w'))
      (first | exact ⟨by simpa using x0, by simpa using x1, by simpa using x2, by simpa using x3, HWd⟩ | (go_split_ands; exact ⟨cell_kept hb5 (by assumption), cell_kept hb5 (by assumption), cell_kept hb5 (by assumption), cell_kept hb5 (by assumption), Lib.hid (below_chain (Hid.out (by assumption)) hb5)⟩))
      (first | (go_at_call 94; refine (shidden_S _).mono ?_; rintro e w5 ⟨rfl, hb5⟩))
    all_goals
      have HWf := Lib.hid (show Below w.heap.size w w5 from below_chain (Hid.out (by assumption)) hb5)
      go_wp2
      go_ret2
      refine ⟨?_, HWf.out⟩
      first | rfl | (congr 4 <;> omega) | (rw [Int.natCast_add]; rfl)

set_option maxRecDepth 100000 in
theorem class_D (z : Nat) (w : World) : Calls Tryz.prog 49 #[.agg #[.int .i64 64, .int .i64 53, .int .i64 (-1074), .int .u64 9221120237041090561], .int .u64 (z : Int)] w fun e w' => e = .returned (.int .i64 ((clsN 4503599627370496 9218868437227405312 z : Nat) : Int)) ∧ Below w.heap.size w w' := by
  have hb0 := below_alloc' w (.cells #[.int .i64 64, .int .i64 53, .int .i64 (-1074), .int .u64 9221120237041090561] 70)
  have hc : clsN 4503599627370496 9218868437227405312 z = if z = 0 then 0 else if z < 4503599627370496 then 1 else if z < 9218868437227405312 then 2 else if z = 9218868437227405312 then 3 else 4 := rfl
  by_cases h0 : z = 0
  · rw [if_pos h0] at hc
    rw [hc]
    have hb : ((z : Int) == 0) = true := by rw [beq_iff_eq]; omega
    clear hc
    go_enter Tryz.func49, Tryz.ntmps49
    go_wp2
    go_ret
    exact ⟨rfl, hb0⟩
  have hz : ((z : Int) == 0) = false := by rw [beq_eq_false_iff_ne]; omega
  rw [if_neg h0] at hc
  by_cases h1 : z < 4503599627370496
  · rw [if_pos h1] at hc
    rw [hc]
    have hl : (z : Int) < 4503599627370496 := by omega
    clear hc
    go_enter Tryz.func49, Tryz.ntmps49
    go_wp2_with fail
    refine (shidden_D _).mono ?_
    rintro e w1 ⟨rfl, hb1⟩
    go_wp2
    go_ret
    exact ⟨rfl, below_chain hb0 hb1⟩
  have hl : 4503599627370496 ≤ (z : Int) := by omega
  rw [if_neg h1] at hc
  by_cases h2 : z < 9218868437227405312
  · rw [if_pos h2] at hc
    rw [hc]
    obtain ⟨nf, hnf⟩ : ∃ nf : Int, (9218868437227405312 : Int) = nf := ⟨_, rfl⟩
    have hl2 : (z : Int) < nf := by omega
    have HNF := Lib.hid hnf
    clear hc h0 h1 h2 hnf
    go_enter Tryz.func49, Tryz.ntmps49
    go_wp2_with fail
    refine (shidden_D _).mono ?_
    rintro e w1 ⟨rfl, hb1⟩
    generalize (4503599627370496 : Int) = hi at hl ⊢
    have y0 : w1.cell? ⟨w.heap.size, 0, none⟩ = some (.int .i64 64) := cell_kept hb1 (by first | assumption | simp)
    have y1 : w1.cell? ⟨w.heap.size, 1, none⟩ = some (.int .i64 53) := cell_kept hb1 (by first | assumption | simp)
    have y2 : w1.cell? ⟨w.heap.size, 2, none⟩ = some (.int .i64 (-1074)) := cell_kept hb1 (by first | assumption | simp)
    have y3 : w1.cell? ⟨w.heap.size, 3, none⟩ = some (.int .u64 9221120237041090561) := cell_kept hb1 (by first | assumption | simp)
    go_wp2_with fail
    refine (sinf_D _).mono ?_
    rintro e w2 ⟨rfl, hb2⟩
    rw [HNF.out]
    go_wp2
    go_ret
    exact ⟨rfl, below_chain (below_chain hb0 hb1) hb2⟩
  have hl2 : 9218868437227405312 ≤ (z : Int) := by omega
  rw [if_neg h2] at hc
  obtain ⟨q, hq⟩ : ∃ q, decide (z = 9218868437227405312) = q := ⟨_, rfl⟩
  have hqi : ((z : Int) == 9218868437227405312) = q := by
    rw [← hq, Bool.eq_iff_iff, beq_iff_eq, decide_eq_true_iff]; omega
  have hc2 : clsN 4503599627370496 9218868437227405312 z = if q = true then 3 else 4 := by rw [hc, ← hq]; simp
  rw [hc2]
  clear hc hc2 hq h0 h1 h2
  cases q
  all_goals
    go_enter Tryz.func49, Tryz.ntmps49
    go_wp2_with fail
    refine (shidden_D _).mono ?_
    rintro e w1 ⟨rfl, hb1⟩
    generalize (4503599627370496 : Int) = hi at hl ⊢
    have y0 : w1.cell? ⟨w.heap.size, 0, none⟩ = some (.int .i64 64) := cell_kept hb1 (by first | assumption | simp)
    have y1 : w1.cell? ⟨w.heap.size, 1, none⟩ = some (.int .i64 53) := cell_kept hb1 (by first | assumption | simp)
    have y2 : w1.cell? ⟨w.heap.size, 2, none⟩ = some (.int .i64 (-1074)) := cell_kept hb1 (by first | assumption | simp)
    have y3 : w1.cell? ⟨w.heap.size, 3, none⟩ = some (.int .u64 9221120237041090561) := cell_kept hb1 (by first | assumption | simp)
    go_wp2_with fail
    refine (sinf_D _).mono ?_
    rintro e w2 ⟨rfl, hb2⟩
    have hqj := hqi
    generalize (9218868437227405312 : Int) = nf at hl2 hqj ⊢
    have x0 : w2.cell? ⟨w.heap.size, 0, none⟩ = some (.int .i64 64) := cell_kept hb2 (by first | assumption | simp)
    have x1 : w2.cell? ⟨w.heap.size, 1, none⟩ = some (.int .i64 53) := cell_kept hb2 (by first | assumption | simp)
    have x2 : w2.cell? ⟨w.heap.size, 2, none⟩ = some (.int .i64 (-1074)) := cell_kept hb2 (by first | assumption | simp)
    have x3 : w2.cell? ⟨w.heap.size, 3, none⟩ = some (.int .u64 9221120237041090561) := cell_kept hb2 (by first | assumption | simp)
    go_wp2_with fail
    refine (sinf_D _).mono ?_
    rintro e w3 ⟨rfl, hb3⟩
    go_wp2
    go_ret
    exact ⟨rfl, below_chain (below_chain (below_chain hb0 hb1) hb2) hb3⟩

set_option maxRecDepth 100000 in
theorem parts_D (z : Nat) (hz : z < 9223372036854775808) (w : World) : Calls Tryz.prog 64 #[.agg #[.int .i64 64, .int .i64 53, .int .i64 (-1074), .int .u64 9221120237041090561], .int .u64 (z : Int)] w fun e w' => e = .returned (.tuple #[.int .u64 ((ptM 4503599627370496 z : Nat) : Int), .int .i64 (ptE 4503599627370496 (-1074) z)]) ∧ Below w.heap.size w w' := by
  have hb0 := below_alloc' w (.cells #[.int .i64 64, .int .i64 53, .int .i64 (-1074), .int .u64 9221120237041090561] 70)
  obtain ⟨q, hq⟩ : ∃ q, z / 4503599627370496 = q := ⟨_, rfl⟩
  obtain ⟨r, hr⟩ : ∃ r, z % 4503599627370496 = r := ⟨_, rfl⟩
  have hqi : (z : Int) / 4503599627370496 = (q : Int) := by omega
  have hri : (z : Int) % 4503599627370496 = (r : Int) := by omega
  have hqb : q < 4096 := by omega
  have hrb : r < 4503599627370496 := by omega
  have hM : ptM 4503599627370496 z = if q = 0 then r else 4503599627370496 + r := by unfold ptM; rw [hq, hr]
  have hE : ptE 4503599627370496 (-1074) z = if q = 0 then ((-1074) : Int) else ((-1074) : Int) + (q : Int) - 1 := by unfold ptE; rw [hq]
  rw [hM, hE]
  have kw1 : IntKind.u64.wrap (4503599627370496 + (r : Int)) = 4503599627370496 + (r : Int) := by rw [IntKind.wrap_u64]; omega
  have kw2 : IntKind.i64.wrap (q : Int) = (q : Int) := by rw [IntKind.wrap_i64]; omega
  have kw3 : IntKind.i64.wrap (((-1074) : Int) + (q : Int)) = ((-1074) : Int) + (q : Int) := by rw [IntKind.wrap_i64]; omega
  have kw4 : IntKind.i64.wrap (((-1074) : Int) + (q : Int) - 1) = ((-1074) : Int) + (q : Int) - 1 := by rw [IntKind.wrap_i64]; omega
  clear hq hr hM hE
  by_cases h0 : q = 0
  · rw [if_pos h0, if_pos h0]
    subst h0
    go_enter Tryz.func64, Tryz.ntmps64
    go_wp2_with fail
    refine (shidden_D _).mono ?_
    rintro e w1 ⟨rfl, hb1⟩
    have y0 : w1.cell? ⟨w.heap.size, 0, none⟩ = some (.int .i64 64) := cell_kept hb1 (by first | assumption | simp)
    have y1 : w1.cell? ⟨w.heap.size, 1, none⟩ = some (.int .i64 53) := cell_kept hb1 (by first | assumption | simp)
    have y2 : w1.cell? ⟨w.heap.size, 2, none⟩ = some (.int .i64 (-1074)) := cell_kept hb1 (by first | assumption | simp)
    have y3 : w1.cell? ⟨w.heap.size, 3, none⟩ = some (.int .u64 9221120237041090561) := cell_kept hb1 (by first | assumption | simp)
    go_wp2_with fail
    refine (shidden_D _).mono ?_
    rintro e w2 ⟨rfl, hb2⟩
    have x0 : w2.cell? ⟨w.heap.size, 0, none⟩ = some (.int .i64 64) := cell_kept hb2 (by first | assumption | simp)
    have x1 : w2.cell? ⟨w.heap.size, 1, none⟩ = some (.int .i64 53) := cell_kept hb2 (by first | assumption | simp)
    have x2 : w2.cell? ⟨w.heap.size, 2, none⟩ = some (.int .i64 (-1074)) := cell_kept hb2 (by first | assumption | simp)
    have x3 : w2.cell? ⟨w.heap.size, 3, none⟩ = some (.int .u64 9221120237041090561) := cell_kept hb2 (by first | assumption | simp)
    go_wp2
    go_quiet (fail)
    go_wp2
    go_ret2
    refine ⟨?_, below_dn (below_chain (below_chain hb0 hb1) hb2) _⟩
    first | rfl | (rw [← hri]; rfl)
  · rw [if_neg h0, if_neg h0]
    have hqz : ((q : Int) == 0) = false := by rw [beq_eq_false_iff_ne]; omega
    go_enter Tryz.func64, Tryz.ntmps64
    go_wp2_with fail
    refine (shidden_D _).mono ?_
    rintro e w1 ⟨rfl, hb1⟩
    have y0 : w1.cell? ⟨w.heap.size, 0, none⟩ = some (.int .i64 64) := cell_kept hb1 (by first | assumption | simp)
    have y1 : w1.cell? ⟨w.heap.size, 1, none⟩ = some (.int .i64 53) := cell_kept hb1 (by first | assumption | simp)
    have y2 : w1.cell? ⟨w.heap.size, 2, none⟩ = some (.int .i64 (-1074)) := cell_kept hb1 (by first | assumption | simp)
    have y3 : w1.cell? ⟨w.heap.size, 3, none⟩ = some (.int .u64 9221120237041090561) := cell_kept hb1 (by first | assumption | simp)
    go_wp2_with fail
    refine (shidden_D _).mono ?_
    rintro e w2 ⟨rfl, hb2⟩
    have hw2 := below_chain (below_chain hb0 hb1) hb2
    have hbx := below_chain (below_chain hb1 hb2) (below_draw' w2)
    have HB := Lib.hid hbx
    have HWd := Lib.hid hw2.drew
    have x0 : w2.cell? ⟨w.heap.size, 0, none⟩ = some (.int .i64 64) := cell_kept hb2 (by first | assumption | simp)
    have x1 : w2.cell? ⟨w.heap.size, 1, none⟩ = some (.int .i64 53) := cell_kept hb2 (by first | assumption | simp)
    have x2 : w2.cell? ⟨w.heap.size, 2, none⟩ = some (.int .i64 (-1074)) := cell_kept hb2 (by first | assumption | simp)
    have x3 : w2.cell? ⟨w.heap.size, 3, none⟩ = some (.int .u64 9221120237041090561) := cell_kept hb2 (by first | assumption | simp)
    go_wp2_with fail
    go_region_held3 (fun w' => w'.cell? ⟨w.heap.size, 0, none⟩ = some (.int .i64 64) ∧ w'.cell? ⟨w.heap.size, 1, none⟩ = some (.int .i64 53) ∧ w'.cell? ⟨w.heap.size, 2, none⟩ = some (.int .i64 (-1074)) ∧ w'.cell? ⟨w.heap.size, 3, none⟩ = some (.int .u64 9221120237041090561) ∧ Hid (Below w.heap.size w w'))
      (first | exact ⟨by simpa using x0, by simpa using x1, by simpa using x2, by simpa using x3, HWd⟩ | (go_split_ands; exact ⟨cell_kept hb5 (by assumption), cell_kept hb5 (by assumption), cell_kept hb5 (by assumption), cell_kept hb5 (by assumption), Lib.hid (below_chain (Hid.out (by assumption)) hb5)⟩))
      (first | (go_at_call 94; refine (shidden_D _).mono ?_; rintro e w5 ⟨rfl, hb5⟩))
    all_goals
      have HWf := Lib.hid (show Below w.heap.size w w5 from below_chain (Hid.out (by assumption)) hb5)
      go_wp2
      go_ret2
      refine ⟨?_, HWf.out⟩
      first | rfl | (congr 4 <;> omega) | (rw [Int.natCast_add]; rfl)
end Go.Proofs.YtfacjlffkcbagaaGreatDoor
