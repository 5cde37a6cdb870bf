/- Walks of binary: made, Join (printed by gen_join.py). -/
import Derived.Test.YtooehlneoboenaaDoorBd
import Derived.Test.YtooehlneoboenaaDoorTc
namespace Go.Proofs.YtooehlneoboenaaDoor
open Go.RowKit

/-- Join's answer. -/
def jV (f : Fm) (neg : Bool) (o : Option Nat) : Value := match o with | some z => .tuple #[.int .u64 ((sgn f neg z : Nat) : Int), .int .i64 0] | none => .tuple #[.int .u64 0, .int .i64 5]

set_option maxRecDepth 100000 in
theorem made_D (neg : Bool) (z : Nat) (hz : z < 9223372036854775808) (w : World) : Calls Tryd.prog 33 #[.agg #[.int .i64 64, .int .i64 53, .int .i64 (-1074), .int .u64 9221120237041090561], .bool neg, .int .u64 (z : Int)] w fun e w' => e = .returned (.int .u64 ((sgn fmD neg z : Nat) : Int)) ∧ Below w.heap.size w w' := by
  have ho := or_high 63 z (by omega) hz
  have hb0 := below_alloc' w (.cells #[.int .i64 64, .int .i64 53, .int .i64 (-1074), .int .u64 9221120237041090561] 62)
  cases neg
  · clear ho
    go_enter Tryd.func33, Tryd.ntmps33
    go_wp2
    go_ret
    exact ⟨rfl, hb0⟩
  · have ho2 : bits BinOp.or IntKind.u64 (z : Int) 9223372036854775808 = ((2 ^ 63 + z : Nat) : Int) := ho
    have HO := Lib.hid ho2
    clear ho ho2 hz
    go_enter Tryd.func33, Tryd.ntmps33
    go_wp2_with fail
    refine (ssign_D _).mono ?_
    rintro e w1 ⟨rfl, hb1⟩
    go_wp2
    go_ret
    exact ⟨ret_int (HO.out.trans (by rw [Int.natCast_add]; rfl)), below_chain hb0 hb1⟩

set_option maxRecDepth 100000 in
set_option maxHeartbeats 2000000 in
/-- What Join answers. -/
theorem join_walk_D (neg : Bool) (man : Nat) (exp : Int) (hm : man < 18446744073709551616) (h1 : -1000000 ≤ exp) (h2 : exp ≤ 2900) (w : World) (ht : Tab64 w) :
    Calls Tryd.prog 21 #[.int .i64 64, .bool neg, .int .u64 (man : Int), .int .i64 exp] w fun e w' => e = .returned (jV fmD neg (joinN fmD man exp)) ∧ Below w.heap.size w w' := by
  by_cases h0 : man = 0
  · subst h0
    have HN := Lib.hid (show joinN fmD 0 exp = some 0 by unfold joinN; rw [if_pos rfl])
    have HM := Lib.hid (fun w => made_D neg 0 (by omega) w)
    clear h1 h2 hm ht
    go_enter Tryd.func21, Tryd.ntmps21
    go_wp2_with fail
    refine (shapeOf_D _).mono ?_
    rintro e w1 ⟨rfl, hb1⟩
    go_wp2_with fail
    refine (HM.out _).mono ?_
    rintro e w2 ⟨rfl, hb2⟩
    go_wp2
    go_ret2
    exact ⟨by rw [HN.out]; rfl, below_chain (below_chain hb1 (below_alloc' w1 _)) hb2⟩
  have hz : ((man : Int) == 0) = false := by rw [beq_eq_false_iff_ne]; omega
  by_cases hc1 : exp < -1138
  · have HN := Lib.hid (show joinN fmD man exp = none by unfold joinN; rw [if_neg h0, if_pos (.inl (by show exp < (-1074) - 64; omega))])
    clear ht
    go_enter Tryd.func21, Tryd.ntmps21
    go_wp2_with fail
    refine (shapeOf_D _).mono ?_
    rintro e w1 ⟨rfl, hb1⟩
    go_wp2
    go_ret2
    exact ⟨by rw [HN.out]; rfl, below_chain hb1 (below_alloc' w1 _)⟩
  have hc2 : ¬ 3022 < exp := by omega
  have hW : man < W64 := by rw [W64_num]; exact hm
  obtain ⟨hctz, htz⟩ := ctz_tz hW h0
  have HC := Lib.hid hctz
  obtain ⟨lo, hlo⟩ : ∃ lo, tz man = lo := ⟨_, rfl⟩
  rw [hlo] at HC htz
  obtain ⟨m, hm2⟩ : ∃ m, man / 2 ^ lo = m := ⟨_, rfl⟩
  have hshr : (man : Int) / 2 ^ lo = (m : Int) := by rw [← hm2]; simp
  have hmb : m < 18446744073709551616 := by rw [← hm2]; exact Nat.lt_of_le_of_lt (Nat.div_le_self _ _) hm
  have hmW : m < W64 := by rw [W64_num]; exact hmb
  have hbl := bitLen_blen hmW
  obtain ⟨n, hn⟩ : ∃ n, blen m = n := ⟨_, rfl⟩
  rw [hn] at hbl
  have hnb : blen m = n := hn
  have hn64 : n ≤ 64 := by rw [← hn]; exact blen_le.2 (by rw [← W64_eq]; exact hmW)
  obtain ⟨x, hx⟩ : ∃ x : Int, exp + (lo : Int) = x := ⟨_, rfl⟩
  have hxw : IntKind.i64.wrap (exp + (lo : Int)) = x := by rw [IntKind.wrap_i64]; omega
  have hxb : -3000 ≤ x ∧ x ≤ 2963 := by omega
  have HTZ := Lib.hid (show ∀ w, Tab64 w → Calls Tryd.prog 34 #[.int .u64 (man : Int)] w (fun e w' => e = .returned (.int .i64 (lo : Int)) ∧ w' = w) from fun w h => by
    have := Any7.bits_TrailingZeros64 Tryd.lays7_29 man hm w (fun _ => h)
    rw [HC.out] at this
    exact this)
  have HLN := Lib.hid (show ∀ w, Calls Tryd.prog 25 #[.int .u64 (m : Int)] w (fun e w' => e = .returned (.int .i64 (n : Int)) ∧ w' = w) from fun w => by
    have := Tryd.bits_Len64 (m : Int) w (by omega) (by omega)
    simp only [Int.toNat_natCast] at this
    rw [hbl] at this
    exact this)
  have HT := Lib.hid ht
  have hpre : joinN fmD man exp = if n > 53 ∨ x < (-1074) then none else
      (if m * 2 ^ min (53 - n) (x - (-1074)).toNat < 4503599627370496 then some (m * 2 ^ min (53 - n) (x - (-1074)).toNat) else
       if (x - (min (53 - n) (x - (-1074)).toNat : Nat) - (-1074)).toNat * 4503599627370496 + m * 2 ^ min (53 - n) (x - (-1074)).toNat ≥ 9218868437227405312 then none else some ((x - (min (53 - n) (x - (-1074)).toNat : Nat) - (-1074)).toNat * 4503599627370496 + m * 2 ^ min (53 - n) (x - (-1074)).toNat)) := by
    unfold joinN
    rw [if_neg h0, if_neg (by show ¬ (exp < (-1074) - 64 ∨ exp > (-1074) + 4096); omega)]
    simp only [hlo, hm2, hn, hx]
    rfl
  clear hlo hm2 hn hx hctz hbl ht hW hmW HC h0 hm
  by_cases hc3 : n > 53 ∨ x < (-1074)
  · rw [if_pos hc3] at hpre
    have HN := Lib.hid hpre
    by_cases hc4 : (53 : Int) < (n : Int)
    · clear hc3 hpre
      go_enter Tryd.func21, Tryd.ntmps21
      go_wp2_with fail
      refine (shapeOf_D _).mono ?_
      rintro e w1 ⟨rfl, hb1⟩
      go_wp2_with fail
      refine (HTZ.out _ (HT.out.below (below_chain hb1 (below_alloc' w1 _)))).mono ?_
      rintro e w2 ⟨rfl, rfl⟩
      go_wp2_with fail
      refine (HLN.out _).mono ?_
      rintro e w3 ⟨rfl, rfl⟩
      go_wp2
      go_ret2
      exact ⟨by rw [HN.out]; rfl, below_chain hb1 (below_alloc' w1 _)⟩
    · have hc5 : x < (-1074) := by omega
      clear hc3 hpre
      go_enter Tryd.func21, Tryd.ntmps21
      go_wp2_with fail
      refine (shapeOf_D _).mono ?_
      rintro e w1 ⟨rfl, hb1⟩
      go_wp2_with fail
      refine (HTZ.out _ (HT.out.below (below_chain hb1 (below_alloc' w1 _)))).mono ?_
      rintro e w2 ⟨rfl, rfl⟩
      go_wp2_with fail
      refine (HLN.out _).mono ?_
      rintro e w3 ⟨rfl, rfl⟩
      go_wp2
      go_ret2
      exact ⟨by rw [HN.out]; rfl, below_chain hb1 (below_alloc' w1 _)⟩
  rw [if_neg hc3] at hpre
  have hc4 : (n : Int) ≤ (53 : Int) := by omega
  have hc5 : (-1074) ≤ x := by omega
  obtain ⟨up, hup⟩ : ∃ up, min (53 - n) (x - (-1074)).toNat = up := ⟨_, rfl⟩
  have hupi : min ((53 : Int) - (n : Int)) (x + 1074) = (up : Int) := by omega
  rw [hup] at hpre
  obtain ⟨m2, hm2⟩ : ∃ m2, m * 2 ^ up = m2 := ⟨_, rfl⟩
  rw [hm2] at hpre
  have hm2b : m2 < 18446744073709551616 := by
    have a1 : m < 2 ^ n := by rw [← hnb]; exact blen_hi m
    have a2 := Nat.mul_lt_mul_of_pos_right a1 (Nat.two_pow_pos up)
    rw [← Nat.pow_add, hm2] at a2
    have a3 : 2 ^ (n + up) ≤ 2 ^ 64 := Nat.pow_le_pow_right (by omega) (by omega)
    omega
  have hm2i : IntKind.u64.wrap ((m : Int) * 2 ^ up) = (m2 : Int) := by
    have hA : (m : Int) * 2 ^ up = ((m2 : Nat) : Int) := by rw [← hm2, Int.natCast_mul, Int.natCast_pow]; rfl
    rw [hA, IntKind.wrap_u64]; omega
  have hup64 : up ≤ 63 := by omega
  have HNB := Lib.hid hnb
  have HM2 := Lib.hid hm2
  clear hup hm2 hnb
  by_cases hc6 : m2 < 4503599627370496
  · rw [if_pos hc6] at hpre
    have HPRE := Lib.hid hpre
    have HM := Lib.hid (fun w => made_D neg m2 (by omega) w)
    obtain ⟨hi, hhi⟩ : ∃ hi : Int, (4503599627370496 : Int) = hi := ⟨_, rfl⟩
    have hc7 : (m2 : Int) < hi := by omega
    have HHI := Lib.hid hhi
    clear hpre hc3 hc6 hhi
    go_enter Tryd.func21, Tryd.ntmps21
    go_wp2_with fail
    refine (shapeOf_D _).mono ?_
    rintro e w1 ⟨rfl, hb1⟩
    go_wp2_with fail
    refine (HTZ.out _ (HT.out.below (below_chain hb1 (below_alloc' w1 _)))).mono ?_
    rintro e w2 ⟨rfl, rfl⟩
    go_wp2_with fail
    refine (HLN.out _).mono ?_
    rintro e w3 ⟨rfl, rfl⟩
    go_wp2_with fail
    refine (shidden_D _).mono ?_
    rintro e w4 ⟨rfl, hb4⟩
    rw [HHI.out]
    have HW4 := Lib.hid (below_chain (below_chain hb1 (below_alloc' w1 _)) hb4)
    have y40 : w4.cell? ⟨w1.heap.size, 0, none⟩ = some (.int .i64 64) := cell_kept hb4 (by first | assumption | simp)
    have y41 : w4.cell? ⟨w1.heap.size, 1, none⟩ = some (.int .i64 53) := cell_kept hb4 (by first | assumption | simp)
    have y42 : w4.cell? ⟨w1.heap.size, 2, none⟩ = some (.int .i64 (-1074)) := cell_kept hb4 (by first | assumption | simp)
    have y43 : w4.cell? ⟨w1.heap.size, 3, none⟩ = some (.int .u64 9221120237041090561) := cell_kept hb4 (by first | assumption | simp)
    go_wp2_with fail
    refine (HM.out _).mono ?_
    rintro e w5 ⟨rfl, hb5⟩
    go_wp2
    go_ret2
    exact ⟨by rw [HPRE.out]; rfl, below_chain HW4.out hb5⟩
  rw [if_neg hc6] at hpre
  obtain ⟨hi, hhi⟩ : ∃ hi : Int, (4503599627370496 : Int) = hi := ⟨_, rfl⟩
  have hc7 : hi ≤ (m2 : Int) := by omega
  have HHI := Lib.hid hhi
  obtain ⟨q, hq⟩ : ∃ q, (x - (up : Nat) - (-1074)).toNat = q := ⟨_, rfl⟩
  rw [hq] at hpre
  have hqi : x - (up : Int) + 1074 = (q : Int) := by omega
  have hqb : q ≤ 4037 := by omega
  have hm2c : m2 ≤ 2 * 4503599627370496 := by
    have a1 : m < 2 ^ n := by rw [← HNB.out]; exact blen_hi m
    have a2 := Nat.mul_lt_mul_of_pos_right a1 (Nat.two_pow_pos up)
    rw [← Nat.pow_add, HM2.out] at a2
    have a3 : 2 ^ (n + up) ≤ 2 ^ 53 := Nat.pow_le_pow_right (by omega) (by omega)
    omega
  obtain ⟨z, hzz⟩ : ∃ z, q * 4503599627370496 + m2 = z := ⟨_, rfl⟩
  rw [hzz] at hpre
  have hzi : IntKind.u64.wrap ((q : Int) * 4503599627370496 + (m2 : Int)) = (z : Int) := by rw [IntKind.wrap_u64]; omega
  obtain ⟨ni, hni⟩ : ∃ ni : Int, (9218868437227405312 : Int) = ni := ⟨_, rfl⟩
  have HNI := Lib.hid hni
  have HPRE := Lib.hid hpre
  clear hc3 hc6 hhi hpre hzz hq hni
  go_enter Tryd.func21, Tryd.ntmps21
  go_wp2_with fail
  refine (shapeOf_D _).mono ?_
  rintro e w1 ⟨rfl, hb1⟩
  go_wp2_with fail
  refine (HTZ.out _ (HT.out.below (below_chain hb1 (below_alloc' w1 _)))).mono ?_
  rintro e w2 ⟨rfl, rfl⟩
  go_wp2_with fail
  refine (HLN.out _).mono ?_
  rintro e w3 ⟨rfl, rfl⟩
  go_wp2_with fail
  refine (shidden_D _).mono ?_
  rintro e w4 ⟨rfl, hb4⟩
  rw [HHI.out]
  have HW4 := Lib.hid (below_chain (below_chain hb1 (below_alloc' w1 _)) hb4)
  have y40 : w4.cell? ⟨w1.heap.size, 0, none⟩ = some (.int .i64 64) := cell_kept hb4 (by first | assumption | simp)
  have y41 : w4.cell? ⟨w1.heap.size, 1, none⟩ = some (.int .i64 53) := cell_kept hb4 (by first | assumption | simp)
  have y42 : w4.cell? ⟨w1.heap.size, 2, none⟩ = some (.int .i64 (-1074)) := cell_kept hb4 (by first | assumption | simp)
  have y43 : w4.cell? ⟨w1.heap.size, 3, none⟩ = some (.int .u64 9221120237041090561) := cell_kept hb4 (by first | assumption | simp)
  go_wp2_with fail
  refine (shidden_D _).mono ?_
  rintro e w5 ⟨rfl, hb5⟩
  have HW5 := Lib.hid (below_chain HW4.out hb5)
  have y50 : w5.cell? ⟨w1.heap.size, 0, none⟩ = some (.int .i64 64) := cell_kept hb5 (by first | assumption | simp)
  have y51 : w5.cell? ⟨w1.heap.size, 1, none⟩ = some (.int .i64 53) := cell_kept hb5 (by first | assumption | simp)
  have y52 : w5.cell? ⟨w1.heap.size, 2, none⟩ = some (.int .i64 (-1074)) := cell_kept hb5 (by first | assumption | simp)
  have y53 : w5.cell? ⟨w1.heap.size, 3, none⟩ = some (.int .u64 9221120237041090561) := cell_kept hb5 (by first | assumption | simp)
  go_wp2_with fail
  refine (sinf_D _).mono ?_
  rintro e w6 ⟨rfl, hb6⟩
  rw [HNI.out]
  have HW6 := Lib.hid (below_chain HW5.out hb6)
  have y60 : w6.cell? ⟨w1.heap.size, 0, none⟩ = some (.int .i64 64) := cell_kept hb6 (by first | assumption | simp)
  have y61 : w6.cell? ⟨w1.heap.size, 1, none⟩ = some (.int .i64 53) := cell_kept hb6 (by first | assumption | simp)
  have y62 : w6.cell? ⟨w1.heap.size, 2, none⟩ = some (.int .i64 (-1074)) := cell_kept hb6 (by first | assumption | simp)
  have y63 : w6.cell? ⟨w1.heap.size, 3, none⟩ = some (.int .u64 9221120237041090561) := cell_kept hb6 (by first | assumption | simp)
  by_cases hc8 : z ≥ 9218868437227405312
  · have HN := Lib.hid (show joinN fmD man exp = none by rw [HPRE.out, if_pos hc8])
    have hc9 : ni ≤ (z : Int) := by have := HNI.out; omega
    clear hc8
    go_wp2
    go_ret2
    exact ⟨by rw [HN.out]; rfl, HW6.out⟩
  · have HN := Lib.hid (show joinN fmD man exp = some z by rw [HPRE.out, if_neg hc8])
    have hc9 : (z : Int) < ni := by have := HNI.out; omega
    have HM := Lib.hid (fun w => made_D neg z (by omega) w)
    clear hc8
    go_wp2_with fail
    refine (HM.out _).mono ?_
    rintro e w7 ⟨rfl, hb7⟩
    go_wp2
    go_ret2
    exact ⟨by rw [HN.out]; rfl, below_chain HW6.out hb7⟩
end Go.Proofs.YtooehlneoboenaaDoor
