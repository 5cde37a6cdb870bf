/- Walks of binary.Widen, round.Narrow, and of the law Wide. -/
import Derived.Test.YtooehlneoboenaaDoorLi
namespace Go.Proofs.YtooehlneoboenaaDoor
open Go.RowKit Go.Sort

theorem join_some {m : Nat} {e : Int} (hm : m < 16777216) (h1 : -149 ≤ e) (h2 : e ≤ 104) : ∃ z, joinN fmD m e = some z ∧ hxPat fmD m e = z := by
  have hex : ∃ z, joinN fmD m e = some z := by
    by_cases h0 : m = 0
    · exact ⟨0, by unfold joinN; rw [if_pos h0]⟩
    · have htz := tz_le h0
      have hb : blen m ≤ 24 := blen_le.2 (by omega)
      have ho := odd_part h0
      unfold joinN
      rw [if_neg h0, if_neg (by show ¬ (e < (-1074) - 64 ∨ e > (-1074) + 4096); omega)]
      simp only
      have hbo := ho.2.1
      have hhi := blen_hi (m / 2 ^ tz m)
      generalize m / 2 ^ tz m = q at *
      rw [if_neg (by show ¬ (blen q > 53 ∨ e + (tz m : Int) < (-1074)); omega)]
      split
      · exact ⟨_, rfl⟩
      · rw [if_neg]
        · exact ⟨_, rfl⟩
        · have hlt : q * 2 ^ min (fmD.P - blen q) (e + (tz m : Int) - fmD.L).toNat ≤ 2 ^ 53 := by
            have h5 := Nat.mul_le_mul_right (2 ^ min (fmD.P - blen q) (e + (tz m : Int) - fmD.L).toNat) (Nat.le_of_lt hhi)
            rw [← Nat.pow_add] at h5
            exact Nat.le_trans h5 (Nat.pow_le_pow_right (by omega) (by show blen q + min (53 - blen q) _ ≤ 53; omega))
          generalize q * 2 ^ min (fmD.P - blen q) (e + (tz m : Int) - fmD.L).toNat = y at *
          have hP : 2 ^ (fmD.P - 1) = 4503599627370496 := by decide
          have hI : fmD.inf = 9218868437227405312 := by decide
          have hL : fmD.L = -1074 := rfl
          rw [hP, hI, hL]
          generalize (min (fmD.P - blen q) (e + (tz m : Int) - (-1074)).toNat) = up
          have : (e + (tz m : Int) - (up : Int) - (-1074)).toNat ≤ 1300 := by omega
          have h53 : (2 : Nat) ^ 53 = 9007199254740992 := by decide
          generalize (e + (tz m : Int) - (up : Int) - (-1074)).toNat = k at *
          omega
  obtain ⟨z, hz⟩ := hex
  exact ⟨z, hz, join_read (.inr rfl) hz⟩

/-- What a binary32 pattern is as binary64, a binary64 one as binary32. -/
def wideV (b : Nat) : Nat := if clsN 8388608 2139095040 (b % 2147483648) = 4 then 9221120237041090561 else sgn fmD (decide (2147483648 ≤ b)) (if b % 2147483648 = 2139095040 then fmD.inf else hxPat fmD (ptM 8388608 (b % 2147483648)) (ptE 8388608 (-149) (b % 2147483648)))
def narV (b : Nat) : Nat := if clsN 4503599627370496 9218868437227405312 (b % 9223372036854775808) = 4 then 2143289345 else sgn fmS (decide (9223372036854775808 ≤ b)) (if b % 9223372036854775808 = 9218868437227405312 then fmS.inf else hxPat fmS (ptM 4503599627370496 (b % 9223372036854775808)) (ptE 4503599627370496 (-1074) (b % 9223372036854775808)))

set_option maxRecDepth 100000 in
set_option maxHeartbeats 2000000 in
theorem widen_walk (b : Nat) (hb : b < 4294967296) (w : World) (ht : Tab64 w) :
    Calls Tryd.prog 22 #[.int .u64 (b : Int)] w fun e w' => e = .returned (.tuple #[.int .u64 ((wideV b : Nat) : Int), .int .i64 0]) ∧ Below w.heap.size w w' := by
  have HTk := Lib.hid (fun w => take_ok_S b hb w)
  have hV : wideV b = if clsN 8388608 2139095040 (b % 2147483648) = 4 then 9221120237041090561 else sgn fmD (decide (2147483648 ≤ b)) (if b % 2147483648 = 2139095040 then fmD.inf else hxPat fmD (ptM 8388608 (b % 2147483648)) (ptE 8388608 (-149) (b % 2147483648))) := rfl
  have hm := ptM_facts fmS (by decide) (b % 2147483648)
  rw [show 2 ^ (fmS.P - 1) = 8388608 by decide, show 2 ^ fmS.P = 16777216 by decide] at hm
  have hzb : b % 2147483648 < 2147483648 := Nat.mod_lt _ (by omega)
  have hcl : clsN 8388608 2139095040 (b % 2147483648) = if b % 2147483648 = 0 then 0 else if b % 2147483648 < 8388608 then 1 else if b % 2147483648 < 2139095040 then 2 else if b % 2147483648 = 2139095040 then 3 else 4 := rfl
  obtain ⟨neg, hneg⟩ : ∃ neg, decide (2147483648 ≤ b) = neg := ⟨_, rfl⟩
  obtain ⟨z, hz⟩ : ∃ z, b % 2147483648 = z := ⟨_, rfl⟩
  rw [hneg, hz] at HTk hV
  rw [hz] at hm hcl hzb
  have HCl := Lib.hid (fun w => class_S z w)
  have HT := Lib.hid ht
  rw [hV]
  obtain ⟨c, hc⟩ : ∃ c, clsN 8388608 2139095040 z = c := ⟨_, rfl⟩
  rw [hc] at hcl HCl hV ⊢
  by_cases c4 : c = 4
  · rw [if_pos c4]
    subst c4
    clear hV hm hcl hc hzb hneg hz ht hb
    go_enter Tryd.func22, Tryd.ntmps22
    go_wp2_with fail
    refine (HTk.out _).mono ?_
    rintro e w1 ⟨rfl, hb1⟩
    have HW1 := Lib.hid (below_chain hb1 (below_alloc' w1 (.cells #[.int .i64 32, .int .i64 24, .int .i64 (-149), .int .u64 2143289345] 62)))
    have y0 : (w1.alloc (.cells #[.int .i64 32, .int .i64 24, .int .i64 (-149), .int .u64 2143289345] 62)).cell? ⟨w1.heap.size, 0, none⟩ = some (.int .i64 32) := by simp
    have y1 : (w1.alloc (.cells #[.int .i64 32, .int .i64 24, .int .i64 (-149), .int .u64 2143289345] 62)).cell? ⟨w1.heap.size, 1, none⟩ = some (.int .i64 24) := by simp
    have y2 : (w1.alloc (.cells #[.int .i64 32, .int .i64 24, .int .i64 (-149), .int .u64 2143289345] 62)).cell? ⟨w1.heap.size, 2, none⟩ = some (.int .i64 (-149)) := by simp
    have y3 : (w1.alloc (.cells #[.int .i64 32, .int .i64 24, .int .i64 (-149), .int .u64 2143289345] 62)).cell? ⟨w1.heap.size, 3, none⟩ = some (.int .u64 2143289345) := by simp
    go_wp2_with fail
    refine (shapeOf_D _).mono ?_
    rintro e w2 ⟨rfl, hb2⟩
    have z0 := (cell_kept hb2 y0)
    have z1 := (cell_kept hb2 y1)
    have z2 := (cell_kept hb2 y2)
    have z3 := (cell_kept hb2 y3)
    have hlt : w1.heap.size < w2.heap.size := World.block_lt_of_cell? w2 _ z0
    have HW2 := Lib.hid (below_chain (below_chain HW1.out hb2) (below_alloc' w2 (.cells #[.int .i64 64, .int .i64 53, .int .i64 (-1074), .int .u64 9221120237041090561] 62)))
    clear hb2 y0 y1 y2 y3
    go_wp2_with fail
    refine (HCl.out _).mono ?_
    rintro e w3 ⟨rfl, hb3⟩
    have x3 : w3.cell? ⟨w2.heap.size, 3, none⟩ = some (.int .u64 9221120237041090561) := cell_kept hb3 (by simp)
    go_wp2
    go_ret2
    exact ⟨rfl, below_chain HW2.out hb3⟩
  rw [if_neg c4]
  by_cases c3 : c = 3
  · have hzi : z = 2139095040 := by
      rw [hcl] at c3
      split at c3
      · cases c3
      · split at c3
        · cases c3
        · split at c3
          · cases c3
          · split at c3
            · assumption
            · cases c3
    rw [if_pos hzi]
    subst c3
    have HM := Lib.hid (fun w => made_D neg 9218868437227405312 (by omega) w)
    have hi : fmD.inf = 9218868437227405312 := by decide
    rw [hi]
    clear hV hm hcl hc hzb hneg hz ht hb c4 hzi hi
    go_enter Tryd.func22, Tryd.ntmps22
    go_wp2_with fail
    refine (HTk.out _).mono ?_
    rintro e w1 ⟨rfl, hb1⟩
    have HW1 := Lib.hid (below_chain hb1 (below_alloc' w1 (.cells #[.int .i64 32, .int .i64 24, .int .i64 (-149), .int .u64 2143289345] 62)))
    have y0 : (w1.alloc (.cells #[.int .i64 32, .int .i64 24, .int .i64 (-149), .int .u64 2143289345] 62)).cell? ⟨w1.heap.size, 0, none⟩ = some (.int .i64 32) := by simp
    have y1 : (w1.alloc (.cells #[.int .i64 32, .int .i64 24, .int .i64 (-149), .int .u64 2143289345] 62)).cell? ⟨w1.heap.size, 1, none⟩ = some (.int .i64 24) := by simp
    have y2 : (w1.alloc (.cells #[.int .i64 32, .int .i64 24, .int .i64 (-149), .int .u64 2143289345] 62)).cell? ⟨w1.heap.size, 2, none⟩ = some (.int .i64 (-149)) := by simp
    have y3 : (w1.alloc (.cells #[.int .i64 32, .int .i64 24, .int .i64 (-149), .int .u64 2143289345] 62)).cell? ⟨w1.heap.size, 3, none⟩ = some (.int .u64 2143289345) := by simp
    go_wp2_with fail
    refine (shapeOf_D _).mono ?_
    rintro e w2 ⟨rfl, hb2⟩
    have z0 := (cell_kept hb2 y0)
    have z1 := (cell_kept hb2 y1)
    have z2 := (cell_kept hb2 y2)
    have z3 := (cell_kept hb2 y3)
    have hlt : w1.heap.size < w2.heap.size := World.block_lt_of_cell? w2 _ z0
    have hb3 := below_alloc' w2 (.cells #[.int .i64 64, .int .i64 53, .int .i64 (-1074), .int .u64 9221120237041090561] 62)
    have q0 := (cell_kept hb3 z0)
    have q1 := (cell_kept hb3 z1)
    have q2 := (cell_kept hb3 z2)
    have q3 := (cell_kept hb3 z3)
    have HW2 := Lib.hid (below_chain (below_chain HW1.out hb2) hb3)
    clear hb2 y0 y1 y2 y3
    go_wp2_with fail
    refine (HCl.out _).mono ?_
    rintro e w3 ⟨rfl, hb4⟩
    have HW3 := Lib.hid (below_chain HW2.out hb4)
    have x0 : w3.cell? ⟨w2.heap.size, 0, none⟩ = some (.int .i64 64) := cell_kept hb4 (by simp)
    have x1 : w3.cell? ⟨w2.heap.size, 1, none⟩ = some (.int .i64 53) := cell_kept hb4 (by simp)
    have x2 : w3.cell? ⟨w2.heap.size, 2, none⟩ = some (.int .i64 (-1074)) := cell_kept hb4 (by simp)
    have x3 : w3.cell? ⟨w2.heap.size, 3, none⟩ = some (.int .u64 9221120237041090561) := cell_kept hb4 (by simp)
    have t0 := cell_kept hb4 q0
    have t1 := cell_kept hb4 q1
    have t2 := cell_kept hb4 q2
    have t3 := cell_kept hb4 q3
    clear q0 q1 q2 q3 z0 z1 z2 z3 hb3 hb4
    have HWd := Lib.hid (HW3.out.drew)
    go_wp2_with fail
    go_region_held3 (fun w' => w'.cell? ⟨w2.heap.size, 0, none⟩ = some (.int .i64 64) ∧ w'.cell? ⟨w2.heap.size, 1, none⟩ = some (.int .i64 53) ∧ w'.cell? ⟨w2.heap.size, 2, none⟩ = some (.int .i64 (-1074)) ∧ w'.cell? ⟨w2.heap.size, 3, none⟩ = some (.int .u64 9221120237041090561) ∧ Hid (RowKit.Below w.heap.size w w'))
      (first | exact ⟨by simpa using x0, by simpa using x1, by simpa using x2, by simpa using x3, HWd⟩ | (go_split_ands; exact ⟨cell_kept hb5 (by assumption), cell_kept hb5 (by assumption), cell_kept hb5 (by assumption), cell_kept hb5 (by assumption), Lib.hid (below_chain (Hid.out (by assumption)) hb5)⟩))
      (first | (go_at_call 36; refine (sinf_D _).mono ?_; rintro e w5 ⟨rfl, hb5⟩) | (go_at_call 33; refine (HM.out _).mono ?_; rintro e w5 ⟨rfl, hb5⟩))
    all_goals
      have HWf := Lib.hid (show RowKit.Below w.heap.size w w5 from by first | exact below_chain (Hid.out (by assumption)) hb5 | exact below_chain (below_chain HWd.out (by assumption)) hb5)
      go_wp2
      go_ret2
      exact ⟨rfl, HWf.out⟩
  · have hfin : z < 2139095040 := by
      rw [hcl] at c3 c4
      apply Classical.byContradiction
      intro h
      rw [if_neg (by omega), if_neg (by omega), if_neg (by omega)] at c3 c4
      split at c3
      · exact c3 rfl
      · rename_i h2
        rw [if_neg h2] at c4
        exact c4 rfl
    rw [if_neg (by omega)]
    have he : -149 ≤ ptE 8388608 (-149) z ∧ ptE 8388608 (-149) z ≤ 104 := by
      have hq : z / 8388608 ≤ 254 := by omega
      unfold ptE
      generalize z / 8388608 = q at *
      split <;> omega
    obtain ⟨y, hj, hx⟩ := join_some hm.1 he.1 he.2
    rw [hx]
    have HP := Lib.hid (fun w => parts_S z hzb w)
    obtain ⟨M, hM⟩ : ∃ M, ptM 8388608 z = M := ⟨_, rfl⟩
    obtain ⟨E, hE⟩ : ∃ E, ptE 8388608 (-149) z = E := ⟨_, rfl⟩
    rw [hM, hE] at hj HP
    rw [hM] at hm
    rw [hE] at he
    have HJ := Lib.hid (show ∀ W, Tab64 W → Calls Tryd.prog 21 #[.int .i64 64, .bool neg, .int .u64 (M : Int), .int .i64 E] W fun e w' => e = .returned (.tuple #[.int .u64 ((sgn fmD neg y : Nat) : Int), .int .i64 0]) ∧ Below W.heap.size W w' from fun W hW => by
      have := join_walk_D neg M E (by omega) (by omega) (by omega) W hW
      rw [hj] at this
      exact this)
    have hc4 : ((c : Int) == 4) = false := by rw [beq_eq_false_iff_ne]; omega
    have hc3 : ((c : Int) == 3) = false := by rw [beq_eq_false_iff_ne]; omega
    clear hV hm hcl hc hzb hneg hz ht hb c4 c3 hfin he hj hx hM hE
    go_enter Tryd.func22, Tryd.ntmps22
    go_wp2_with fail
    refine (HTk.out _).mono ?_
    rintro e w1 ⟨rfl, hb1⟩
    have HW1 := Lib.hid (below_chain hb1 (below_alloc' w1 (.cells #[.int .i64 32, .int .i64 24, .int .i64 (-149), .int .u64 2143289345] 62)))
    have y0 : (w1.alloc (.cells #[.int .i64 32, .int .i64 24, .int .i64 (-149), .int .u64 2143289345] 62)).cell? ⟨w1.heap.size, 0, none⟩ = some (.int .i64 32) := by simp
    have y1 : (w1.alloc (.cells #[.int .i64 32, .int .i64 24, .int .i64 (-149), .int .u64 2143289345] 62)).cell? ⟨w1.heap.size, 1, none⟩ = some (.int .i64 24) := by simp
    have y2 : (w1.alloc (.cells #[.int .i64 32, .int .i64 24, .int .i64 (-149), .int .u64 2143289345] 62)).cell? ⟨w1.heap.size, 2, none⟩ = some (.int .i64 (-149)) := by simp
    have y3 : (w1.alloc (.cells #[.int .i64 32, .int .i64 24, .int .i64 (-149), .int .u64 2143289345] 62)).cell? ⟨w1.heap.size, 3, none⟩ = some (.int .u64 2143289345) := by simp
    go_wp2_with fail
    refine (shapeOf_D _).mono ?_
    rintro e w2 ⟨rfl, hb2⟩
    have z0 := (cell_kept hb2 y0)
    have z1 := (cell_kept hb2 y1)
    have z2 := (cell_kept hb2 y2)
    have z3 := (cell_kept hb2 y3)
    have hlt : w1.heap.size < w2.heap.size := World.block_lt_of_cell? w2 _ z0
    have hb3 := below_alloc' w2 (.cells #[.int .i64 64, .int .i64 53, .int .i64 (-1074), .int .u64 9221120237041090561] 62)
    have q0 := (cell_kept hb3 z0)
    have q1 := (cell_kept hb3 z1)
    have q2 := (cell_kept hb3 z2)
    have q3 := (cell_kept hb3 z3)
    have HW2 := Lib.hid (below_chain (below_chain HW1.out hb2) hb3)
    clear hb2 y0 y1 y2 y3
    go_wp2_with fail
    refine (HCl.out _).mono ?_
    rintro e w3 ⟨rfl, hb4⟩
    have HW3 := Lib.hid (below_chain HW2.out hb4)
    have x0 : w3.cell? ⟨w2.heap.size, 0, none⟩ = some (.int .i64 64) := cell_kept hb4 (by simp)
    have x1 : w3.cell? ⟨w2.heap.size, 1, none⟩ = some (.int .i64 53) := cell_kept hb4 (by simp)
    have x2 : w3.cell? ⟨w2.heap.size, 2, none⟩ = some (.int .i64 (-1074)) := cell_kept hb4 (by simp)
    have x3 : w3.cell? ⟨w2.heap.size, 3, none⟩ = some (.int .u64 9221120237041090561) := cell_kept hb4 (by simp)
    have t0 := cell_kept hb4 q0
    have t1 := cell_kept hb4 q1
    have t2 := cell_kept hb4 q2
    have t3 := cell_kept hb4 q3
    clear q0 q1 q2 q3 z0 z1 z2 z3 hb3 hb4
    go_wp2_with fail
    refine (HP.out _).mono ?_
    rintro e w4 ⟨rfl, hb5⟩
    have HW4 := Lib.hid (below_chain HW3.out hb5)
    clear hb5
    go_wp2_with fail
    refine (HJ.out _ (HT.out.below HW4.out)).mono ?_
    rintro e w5 ⟨rfl, hb6⟩
    go_wp2
    go_ret2
    exact ⟨rfl, below_chain HW4.out hb6⟩

theorem near_sgn (f : Fm) (neg : Bool) {a : Nat} (h : a ≠ 0) (x : Int) : near f neg a x = sgn f neg (near f false a x) := by
  unfold near
  rw [if_neg h, if_neg h]
  rfl
theorem hx_odd {f : Fm} (hf : f.ok) {a : Nat} (h : a ≠ 0) (x : Int) : hxPat f (a / 2 ^ tz a) (x + tz a) = hxPat f a x := by
  obtain ⟨B, hB1, hB2⟩ : ∃ B : Int, B ≤ x ∧ B ≤ f.L - 1 := ⟨min x (f.L - 1), by omega, by omega⟩
  refine hxPat_same hf (B := B) (by omega) hB1 hB2 ?_
  unfold nv
  rw [show (x + (tz a : Int) - B).toNat = tz a + (x - B).toNat by omega, Nat.pow_add, ← Nat.mul_assoc, odd_mul h]

set_option maxRecDepth 100000 in
set_option maxHeartbeats 2000000 in
theorem narrow_walk (b : Nat) (hb : b < 18446744073709551616) (w : World) (ht : Tab64 w) :
    Calls Tryd.prog 23 #[.int .u64 (b : Int)] w fun e w' => e = .returned (.tuple #[.int .u64 ((narV b : Nat) : Int), .int .i64 0]) ∧ Below w.heap.size w w' := by
  have HCl := Lib.hid (fun w => classOf_D b hb w)
  have hV : narV b = if clsN 4503599627370496 9218868437227405312 (b % 9223372036854775808) = 4 then 2143289345 else sgn fmS (decide (9223372036854775808 ≤ b)) (if b % 9223372036854775808 = 9218868437227405312 then fmS.inf else hxPat fmS (ptM 4503599627370496 (b % 9223372036854775808)) (ptE 4503599627370496 (-1074) (b % 9223372036854775808))) := rfl
  have hcl : clsN 4503599627370496 9218868437227405312 (b % 9223372036854775808) = if b % 9223372036854775808 = 0 then 0 else if b % 9223372036854775808 < 4503599627370496 then 1 else if b % 9223372036854775808 < 9218868437227405312 then 2 else if b % 9223372036854775808 = 9218868437227405312 then 3 else 4 := rfl
  have hm := ptM_facts fmD (by decide) (b % 9223372036854775808)
  rw [show 2 ^ (fmD.P - 1) = 4503599627370496 by decide, show 2 ^ fmD.P = 9007199254740992 by decide] at hm
  have hzb : b % 9223372036854775808 < 9223372036854775808 := Nat.mod_lt _ (by omega)
  have hval := value_walk2 b hb
  have HT := Lib.hid ht
  obtain ⟨neg, hneg⟩ : ∃ neg, decide (9223372036854775808 ≤ b) = neg := ⟨_, rfl⟩
  have hng : ((b : Int) / 9223372036854775808 == 1) = neg := by
    rw [← hneg, Bool.eq_iff_iff, beq_iff_eq, decide_eq_true_iff]; omega
  obtain ⟨z, hz⟩ : ∃ z, b % 9223372036854775808 = z := ⟨_, rfl⟩
  rw [hneg, hz] at hV hval
  rw [hz] at hm hcl hzb HCl
  rw [hV]
  obtain ⟨c, hc⟩ : ∃ c, clsN 4503599627370496 9218868437227405312 z = c := ⟨_, rfl⟩
  rw [hc] at hcl HCl ⊢
  have HRof := Lib.hid (show ∀ w, Calls Tryd.prog 38 #[.int .i64 32] w fun e w' => e = .returned (.agg #[.int .i64 24, .int .i64 (-149), .int .i64 31]) ∧ RowKit.Below w.heap.size w w' from fun w => rof_single w)
  have hw3 := fun w => below_alloc' w (.cells #[.int .i64 24, .int .i64 (-149), .int .i64 31] 72)
  by_cases c4 : c = 4
  · rw [if_pos c4]
    subst c4
    clear hV hm hcl hc hzb hneg hz ht hb hval
    go_enter Tryd.func23, Tryd.ntmps23
    go_wp2_with fail
    refine (HCl.out _).mono ?_
    rintro e w1 ⟨rfl, hb1⟩
    go_wp2_with fail
    refine (HRof.out _).mono ?_
    rintro e w2 ⟨rfl, hb2⟩
    have HW2 := Lib.hid (below_chain (below_chain hb1 hb2) (hw3 w2))
    clear hb1 hb2 hw3
    go_wp2_with fail
    refine (quiet_S _).mono ?_
    rintro e w3 ⟨rfl, hb3⟩
    go_wp2
    go_ret2
    exact ⟨rfl, below_chain HW2.out hb3⟩
  rw [if_neg c4]
  have hc4 : ((c : Int) == 4) = false := by rw [beq_eq_false_iff_ne]; omega
  by_cases c3 : c = 3
  · have hzi : z = 9218868437227405312 := by
      rw [hcl] at c3
      split at c3
      · cases c3
      · split at c3
        · cases c3
        · split at c3
          · cases c3
          · split at c3
            · assumption
            · cases c3
    rw [if_pos hzi]
    subst c3
    have HI := Lib.hid (fun w => infinity_walk fmS (.inl rfl) w)
    have HS := Lib.hid (fun w => signed_walk fmS (.inl rfl) neg fmS.inf (inf_lt fmS (.inl rfl)) w)
    unfold Fm.val fmS at HI HS
    change Hid (∀ w, Calls Tryd.prog 40 #[.agg #[.int .i64 24, .int .i64 (-149), .int .i64 31]] w fun e w' => e = .returned (.int .u64 2139095040) ∧ RowKit.Below w.heap.size w w') at HI
    change Hid (∀ w, Calls Tryd.prog 39 #[.agg #[.int .i64 24, .int .i64 (-149), .int .i64 31], .bool neg, .int .u64 2139095040] w fun e w' => e = .returned (.int .u64 ((sgn fmS neg fmS.inf : Nat) : Int)) ∧ RowKit.Below w.heap.size w w') at HS
    clear hV hm hcl hc hzb hneg hz ht hb hval c4 hc4 hzi
    go_enter Tryd.func23, Tryd.ntmps23
    go_wp2_with fail
    refine (HCl.out _).mono ?_
    rintro e w1 ⟨rfl, hb1⟩
    go_wp2_with fail
    refine (HRof.out _).mono ?_
    rintro e w2 ⟨rfl, hb2⟩
    have HW3 := Lib.hid (below_chain (below_chain hb1 hb2) (hw3 w2))
    have HWd := Lib.hid (HW3.out.drew)
    clear hb1 hb2 hw3
    go_wp2_with fail
    go_region_held3 (fun w' => w'.cell? ⟨w2.heap.size, 0, none⟩ = some (.int .i64 24) ∧ w'.cell? ⟨w2.heap.size, 1, none⟩ = some (.int .i64 (-149)) ∧ w'.cell? ⟨w2.heap.size, 2, none⟩ = some (.int .i64 31) ∧ Hid (RowKit.Below w.heap.size w w'))
      (first | exact ⟨by simp, by simp, by simp, HWd⟩ | (go_split_ands; exact ⟨cell_kept hb5 (by assumption), cell_kept hb5 (by assumption), cell_kept hb5 (by assumption), Lib.hid (below_chain (Hid.out (by assumption)) hb5)⟩))
      (first | (go_at_call 40; refine (HI.out _).mono ?_; rintro e w5 ⟨rfl, hb5⟩) | (go_at_call 39; refine (HS.out _).mono ?_; rintro e w5 ⟨rfl, hb5⟩))
    all_goals
      have HWf := Lib.hid (show RowKit.Below w.heap.size w w5 from by first | exact below_chain (Hid.out (by assumption)) hb5 | exact below_chain (below_chain HWd.out (by assumption)) hb5)
      go_wp2
      go_ret2
      exact ⟨rfl, HWf.out⟩
  have hc3 : ((c : Int) == 3) = false := by rw [beq_eq_false_iff_ne]; omega
  by_cases h0 : z = 0
  · have hc0 : c = 0 := by rw [hcl, if_pos h0]
    rw [if_neg (by omega), h0, show ptM 4503599627370496 0 = 0 from rfl, hx_nought]
    subst hc0
    have HS := Lib.hid (show ∀ w, Calls Tryd.prog 39 #[.agg #[.int .i64 24, .int .i64 (-149), .int .i64 31], .bool neg, .int .u64 0] w fun e w' => e = .returned (.int .u64 ((sgn fmS neg 0 : Nat) : Int)) ∧ RowKit.Below w.heap.size w w' from fun w => signed_walk fmS (.inl rfl) neg 0 (by decide) w)
    clear hV hm hcl hc hzb hneg hz ht hb hval c4 hc4 c3 hc3 h0
    go_enter Tryd.func23, Tryd.ntmps23
    go_wp2_with fail
    refine (HCl.out _).mono ?_
    rintro e w1 ⟨rfl, hb1⟩
    go_wp2_with fail
    refine (HRof.out _).mono ?_
    rintro e w2 ⟨rfl, hb2⟩
    have HW3 := Lib.hid (below_chain (below_chain hb1 hb2) (hw3 w2))
    clear hb1 hb2 hw3
    go_wp2_with fail
    refine (HS.out _).mono ?_
    rintro e w3 ⟨rfl, hb3⟩
    go_wp2
    go_ret2
    exact ⟨rfl, below_chain HW3.out hb3⟩
  · have hfin : z < 9218868437227405312 := by
      rw [hcl] at c3 c4
      apply Classical.byContradiction
      intro h
      rw [if_neg h0, if_neg (by omega), if_neg (by omega)] at c3 c4
      split at c3
      · exact c3 rfl
      · rename_i h2
        rw [if_neg h2] at c4
        exact c4 rfl
    have hc0 : ((c : Int) == 0) = false := by
      rw [beq_eq_false_iff_ne]
      intro e
      have e2 : c = 0 := by omega
      rw [hcl, if_neg h0] at e2
      split at e2
      · cases e2
      · first | cases e2 | (split at e2 <;> cases e2)
    rw [if_neg (by omega)]
    have he : -1074 ≤ ptE 4503599627370496 (-1074) z ∧ ptE 4503599627370496 (-1074) z ≤ 2000 := by
      have hq : z / 4503599627370496 ≤ 2047 := by omega
      unfold ptE
      generalize z / 4503599627370496 = q at *
      split <;> omega
    have hval2 := hval hfin h0
    obtain ⟨M, hM⟩ : ∃ M, ptM 4503599627370496 z = M := ⟨_, rfl⟩
    obtain ⟨E, hE⟩ : ∃ E, ptE 4503599627370496 (-1074) z = E := ⟨_, rfl⟩
    rw [hM, hE] at hval2
    rw [hM] at hm
    rw [hE] at he
    rw [hM, hE]
    have hM0 := hm.2 h0
    have ho := odd_part hM0
    have htz := tz_le hM0
    have hbl : blen M ≤ 53 := blen_le.2 (by omega)
    have HNe := Lib.hid (show ∀ s W, NatAt W s (M / 2 ^ tz M) → Tab64 W → Calls Tryd.prog 42 #[.int .i64 32, .agg #[.bool neg, s, .int .i64 (E + (tz M : Int))]] W fun e w' => e = .returned (.tuple #[.int .u64 ((sgn fmS neg (hxPat fmS M E) : Nat) : Int), .int .i64 0]) ∧ RowKit.Below W.heap.size W w' from fun s W hn htt => by
      have := nearest_walk_S neg s (M / 2 ^ tz M) (E + (tz M : Int)) W hn htt (by omega) (fun _ => ho.2.2) (by omega) (by omega) (fun _ => ho.1) (fun h => absurd h ho.2.2)
      rw [near_sgn fmS neg ho.2.2, near_char (.inl rfl), hx_odd (.inl rfl) hM0] at this
      exact this)
    have HVa := Lib.hid hval2
    obtain ⟨y, hy⟩ : ∃ y : Int, E + (tz M : Int) = y := ⟨_, rfl⟩
    obtain ⟨q, hq⟩ : ∃ q, M / 2 ^ tz M = q := ⟨_, rfl⟩
    rw [hy, hq] at HVa HNe
    obtain ⟨R, hR⟩ : ∃ R, sgn fmS neg (hxPat fmS M E) = R := ⟨_, rfl⟩
    rw [hR] at HNe ⊢
    clear hV hm hcl hc hzb hneg hz ht hb hval hval2 c4 c3 h0 hfin he hM hE hM0 ho htz hbl hy hq hR
    go_enter Tryd.func23, Tryd.ntmps23
    go_wp2_with fail
    refine (HCl.out _).mono ?_
    rintro e w1 ⟨rfl, hb1⟩
    go_wp2_with fail
    refine (HRof.out _).mono ?_
    rintro e w2 ⟨rfl, hb2⟩
    have HW3 := Lib.hid (below_chain (below_chain hb1 hb2) (hw3 w2))
    clear hb1 hb2 hw3
    go_wp2_with fail
    refine (HVa.out _ (HT.out.below HW3.out)).mono ?_
    rintro e w4 ⟨v4, rfl, hn4, hb4⟩
    have HN4 := Lib.hid hn4
    have HW4 := Lib.hid (below_chain HW3.out hb4)
    obtain ⟨A2, c2, rfl, hc2, hr2⟩ := hn4
    have hb5 := below_alloc' w4 (.cells #[.bool neg, .slice A2 (toL q).length c2, .int .i64 y] 78)
    have HW5 := Lib.hid (below_chain HW4.out hb5)
    have HN5 := Lib.hid (HN4.out.below hb5)
    clear hc2 hr2 hb4 hb5
    go_wp2_with fail
    refine (HNe.out _ _ HN5.out (HT.out.below HW5.out)).mono ?_
    rintro e w6 ⟨rfl, hb6⟩
    go_wp2
    go_ret2
    exact ⟨rfl, below_chain HW5.out hb6⟩

/-- The law's walk: whatever the arguments, it answers true. -/
theorem wide_reads (b c : Nat) (hb : b < 4294967296) (hc : c < 18446744073709551616) : ∃ T U : List UInt8,
    (∀ W, Tab64 W → Tab10 W → Calls Tryd.prog 12 #[.int .i64 32, .int .u64 (b : Int)] W fun e w' => e = .returned (.tuple #[.string (bs T), .int .i64 0]) ∧ Below W.heap.size W w') ∧
    (∀ W, Tab64 W → Calls Tryd.prog 13 #[.int .i64 64, .string (bs T)] W fun e w' => e = .returned (.tuple #[.int .u64 ((wideV b : Nat) : Int), .int .i64 0]) ∧ Below W.heap.size W w') ∧
    (∀ W, Tab64 W → Tab10 W → Calls Tryd.prog 12 #[.int .i64 64, .int .u64 (c : Int)] W fun e w' => e = .returned (.tuple #[.string (bs U), .int .i64 0]) ∧ Below W.heap.size W w') ∧
    (∀ W, Tab64 W → Calls Tryd.prog 13 #[.int .i64 32, .string (bs U)] W fun e w' => e = .returned (.tuple #[.int .u64 ((narV c : Nat) : Int), .int .i64 0]) ∧ Below W.heap.size W w') := by
  obtain ⟨T, hT1, hT2, hT3⟩ := print_any_S b hb
  obtain ⟨U, hU1, hU2, hU3⟩ := print_any_D c hc
  refine ⟨T, U, hT2, fun W hW => ?_, hU2, fun W hW => ?_⟩
  · refine parse_bs 64 (.inr rfl) T _ (by omega) ?_ W hW
    unfold wideV
    rcases hT3 with ⟨h4, rfl⟩ | ⟨h4, hz, hr⟩
    · rw [if_pos h4]; exact (rest_read fmD (.inr rfl) false).2.2
    · rw [if_neg h4]; exact hr fmD (.inr rfl)
  · refine parse_bs 32 (.inl rfl) U _ (by omega) ?_ W hW
    unfold narV
    rcases hU3 with ⟨h4, rfl⟩ | ⟨h4, hz, hr⟩
    · rw [if_pos h4]; exact (rest_read fmS (.inl rfl) false).2.2
    · rw [if_neg h4]; exact hr fmS (.inl rfl)

set_option maxRecDepth 100000 in
set_option maxHeartbeats 1000000 in
/-- The law's walk: whatever the arguments, it answers true. -/
theorem wide_walk (b c : Nat) (_ : b < 18446744073709551616) (hc : c < 18446744073709551616) (w : World) (ht : Tab64 w) (h10 : Tab10 w) :
    Calls Tryd.prog 9 #[.int .u64 (b : Int), .int .u64 (c : Int)] w fun e w' => e = .returned (.bool true) ∧ Below w.heap.size w w' := by
  obtain ⟨m, hm⟩ : ∃ m, b % 4294967296 = m := ⟨_, rfl⟩
  have hmi : (b : Int) % 4294967296 = (m : Int) := by omega
  have hmb : m < 4294967296 := by omega
  obtain ⟨T, U, h1, h2, h3, h4⟩ := wide_reads m c hmb hc
  have P1 := Lib.hid h1
  have P2 := Lib.hid h2
  have P3 := Lib.hid h3
  have P4 := Lib.hid h4
  have HWi := Lib.hid (fun W hW => widen_walk m hmb W hW)
  have HNa := Lib.hid (fun W hW => narrow_walk c hc W hW)
  have HT := Lib.hid ht
  have H10 := Lib.hid h10
  obtain ⟨x, hx⟩ : ∃ x, wideV m = x := ⟨_, rfl⟩
  obtain ⟨y, hy⟩ : ∃ y, narV c = y := ⟨_, rfl⟩
  rw [hx] at P2 HWi
  rw [hy] at P4 HNa
  generalize bs T = TS at *
  generalize bs U = US at *
  clear hm h1 h2 h3 h4 ht h10 hmb hc hx hy
  go_enter Tryd.func9, Tryd.ntmps9
  go_wp2_with fail
  refine (awake_walk w HT.out H10.out).mono ?_
  rintro e w1 ⟨rfl, hb1⟩
  have HW1 := Lib.hid hb1
  clear hb1
  go_wp2_with fail
  refine (P1.out _ (HT.out.below HW1.out) (H10.out.below HW1.out)).mono ?_
  rintro e w2 ⟨rfl, hb2⟩
  have HW2 := Lib.hid (below_chain HW1.out hb2)
  clear hb2
  go_wp2_with fail
  refine (P2.out _ (HT.out.below HW2.out)).mono ?_
  rintro e w3 ⟨rfl, hb3⟩
  have HW3 := Lib.hid (below_chain HW2.out hb3)
  clear hb3
  go_wp2_with fail
  refine (HWi.out _ (HT.out.below HW3.out)).mono ?_
  rintro e w4 ⟨rfl, hb4⟩
  have HW4 := Lib.hid (below_chain HW3.out hb4)
  clear hb4
  go_wp2_with fail
  refine (P3.out _ (HT.out.below HW4.out) (H10.out.below HW4.out)).mono ?_
  rintro e w5 ⟨rfl, hb5⟩
  have HW5 := Lib.hid (below_chain HW4.out hb5)
  clear hb5
  go_wp2_with fail
  refine (P4.out _ (HT.out.below HW5.out)).mono ?_
  rintro e w6 ⟨rfl, hb6⟩
  have HW6 := Lib.hid (below_chain HW5.out hb6)
  clear hb6
  go_wp2_with fail
  refine (HNa.out _ (HT.out.below HW6.out)).mono ?_
  rintro e w7 ⟨rfl, hb7⟩
  have HW7 := Lib.hid (below_chain HW6.out hb7)
  clear hb7
  go_wp2
  go_ret
  exact ⟨rfl, HW7.out⟩
end Go.Proofs.YtooehlneoboenaaDoor
