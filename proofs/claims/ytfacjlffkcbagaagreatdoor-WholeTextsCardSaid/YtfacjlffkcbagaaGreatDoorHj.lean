/- The walk of hexfloat.Print (printed by gen_print.py). -/
import Derived.Test.YtfacjlffkcbagaaGreatDoorBs
import Derived.Test.YtfacjlffkcbagaaGreatDoorSb
namespace Go.Proofs.YtfacjlffkcbagaaGreatDoor
open Go.RowKit Go.Sort

/-- The texts of what is no number. -/
def prR (neg : Bool) (c : Nat) : List UInt8 := if c = 4 then [110, 97, 110] else (if neg then [45] else []) ++ (if c = 3 then [105, 110, 102] else [48, 120, 48, 112, 43, 48])
/-- How long a text is. -/
def strLen (v : Value) : Nat := match v with | .string s => s.size | _ => 0
/-- The word that stands behind a mantissa's first bit, at the top. -/
def fracOf (m : Nat) : Nat := m * 2 ^ (63 - (blen m - 1)) % 2 ^ 64 * 2 % 2 ^ 64

set_option maxRecDepth 100000 in
set_option maxHeartbeats 2000000 in
theorem print_num_S (b : Nat) (hb : b < 4294967296) (hz0 : b % 2147483648 ≠ 0) (hfin : b % 2147483648 < 2139095040) (w : World) (ht : Tab64 w) (h10 : Tab10 w) :
    Calls Tryz.prog 10 #[.int .i64 32, .int .u64 (b : Int)] w fun e w' => e = .returned (.tuple #[.string ⟨(prN (decide (2147483648 ≤ b)) (digs 16 (fracOf (ptM 8388608 (b % 2147483648)))) (ptE 8388608 (-149) (b % 2147483648) + ((blen (ptM 8388608 (b % 2147483648)) - 1 : Nat) : Int))).toArray⟩, .int .i64 0]) ∧ Below w.heap.size w w' := by
  obtain ⟨neg, hneg⟩ : ∃ neg, decide (2147483648 ≤ b) = neg := ⟨_, rfl⟩
  have hng : ((b : Int) / 2147483648 != 0) = neg := by
    rw [← hneg, Bool.eq_iff_iff, bne_iff_ne, decide_eq_true_iff]; omega
  have hcl : clsN 8388608 2139095040 (b % 2147483648) = 1 ∨ clsN 8388608 2139095040 (b % 2147483648) = 2 := by
    unfold clsN; rw [if_neg hz0]
    split
    · exact .inl rfl
    · try rw [if_pos hfin]
      exact .inr rfl
  obtain ⟨c, hc⟩ : ∃ c, clsN 8388608 2139095040 (b % 2147483648) = c := ⟨_, rfl⟩
  rw [hc] at hcl
  have hc4 : ((c : Int) == 4) = false := by rw [beq_eq_false_iff_ne]; omega
  have hc3 : ((c : Int) == 3) = false := by rw [beq_eq_false_iff_ne]; omega
  have hc0 : ((c : Int) == 0) = false := by rw [beq_eq_false_iff_ne]; omega
  have hm1 : ptM 8388608 (b % 2147483648) ≠ 0 ∧ ptM 8388608 (b % 2147483648) < 2 ^ 24 := by
    unfold ptM
    split <;> omega
  have hx1 : -1100 ≤ ptE 8388608 (-149) (b % 2147483648) ∧ ptE 8388608 (-149) (b % 2147483648) ≤ 1100 := by
    unfold ptE
    split <;> omega
  obtain ⟨m, hm⟩ : ∃ m, ptM 8388608 (b % 2147483648) = m := ⟨_, rfl⟩
  obtain ⟨x, hx⟩ : ∃ x, ptE 8388608 (-149) (b % 2147483648) = x := ⟨_, rfl⟩
  rw [hm] at hm1
  rw [hx] at hx1
  have hbl1 := blen_pos hm1.1
  have hbl2 : blen m ≤ 24 := blen_le.2 hm1.2
  have hm64 : (m : Int) ≤ 18446744073709551615 := by have := hm1.2; omega
  have hLb : Lib.bitLen m = blen m := bitLen_blen (by rw [W64_num]; have := hm1.2; omega)
  have C1 := Lib.hid (classOf_S b hb)
  have C2 := Lib.hid (split_S b hb hfin)
  rw [hc] at C1
  rw [hneg, hm, hx] at C2
  rw [hneg, hm, hx]
  obtain ⟨n, hn⟩ : ∃ n, blen m = n + 1 := ⟨blen m - 1, by omega⟩
  have hnM : n < 24 := by omega
  rw [hn] at hLb ⊢
  have HLb := Lib.hid hLb
  obtain ⟨R0, hR0⟩ : ∃ R0, fracOf m = R0 := ⟨_, rfl⟩
  have hfr : m * 2 ^ (63 - n) % 2 ^ 64 * 2 % 2 ^ 64 = R0 := by rw [← hR0]; unfold fracOf; rw [hn]; rfl
  have hR64 : R0 < 2 ^ 64 := by rw [← hfr]; exact Nat.mod_lt _ (by omega)
  rw [hR0]
  have hRz : IntKind.u64.wrap (IntKind.u64.wrap ((m : Int) * 2 ^ (63 - n)) * 2) = (R0 : Int) := by
    have hA : (m : Int) * 2 ^ (63 - n) = ((m * 2 ^ (63 - n) : Nat) : Int) := by rw [Int.natCast_mul, Int.natCast_pow]; rfl
    rw [hA, IntKind.wrap_u64, IntKind.wrap_u64]
    generalize m * 2 ^ (63 - n) = a at hfr ⊢
    omega
  have HR := Lib.hid hR64
  have HT := Lib.hid ht
  have H10 := Lib.hid h10
  have HM := Lib.hid hm64
  obtain ⟨hx2, hx3⟩ := hx1
  clear hneg hc hm hx hm1 hb hz0 hfin hcl hbl1 hbl2 hLb hn hR0 hfr hR64 ht h10 hm64
  go_enter Tryz.func10, Tryz.ntmps10
  go_wp2_with fail
  refine (C1.out _).mono ?_
  rintro e w1 ⟨rfl, hb1⟩
  cases neg
  all_goals
    go_wp2_with fail
    refine (C2.out _).mono ?_
    rintro e w2 ⟨rfl, hb2⟩
    have HW := Lib.hid (below_chain hb1 hb2)
    go_wp2_with fail
    refine (Tryz.bits_Len64 _ _ (by omega) HM.out).mono ?_
    rintro e w3 ⟨rfl, rfl⟩
    simp only [Int.toNat_natCast]
    rw [HLb.out]
    clear hb1 hb2
    go_wp2_with fail
    go_loopw [13, 14] (fun D r wr => ∃ (k R : Nat) (ds : List UInt8), D = .string ⟨ds.toArray⟩ ∧ r = .int .u64 (R : Int) ∧ k ≤ 16 ∧ ds.length = k ∧ Hid (R < 2 ^ 64) ∧ Hid (16 ^ k ∣ R) ∧ Hid (digs 16 R0 = ds ++ digs (16 - k) R) ∧ Hid (RowKit.Below w.heap.size w wr)) (fun D _ _ => 16 - strLen D)
    case atStart => exact ⟨0, R0, [], rfl, rfl, by omega, rfl, HR, Lib.hid ⟨R0, by simp⟩, Lib.hid rfl, HW⟩
    case round =>
      obtain ⟨k, R, ds, rfl, rfl, hk, hl, HB, HD, HX, HW⟩ := hrel
      by_cases hR : R = 0
      · subst hR
        have HE := Lib.hid (show digs 16 R0 = ds by rw [HX.out, digs_zero, List.append_nil])
        have h0 : (((0 : Nat) : Int) != 0) = false := rfl
        have HT2 := Lib.hid (H10.out.below HW.out)
        have hni : ((n + 1 - 1 : Nat) : Int) = (n : Int) := by omega
        by_cases hds : ds = []
        · subst hds
          have hI1 := itoa_len (x + (n : Int)) (by omega) (by omega)
          have hI2 := itoa_len (-(x + (n : Int))) (by omega) (by omega)
          by_cases ht : x + (n : Int) < 0
          all_goals
            go_wp2_with fail
            refine (Tryz.strconv_Itoa _ (by omega) (by omega) _ HT2.out).mono ?_
            rintro e w4 ⟨rfl, k4, os, rfl⟩
            have HW4 := Lib.hid (below_grow (below_dn HW.out k4) (by simpa using HW.out.size) os)
            go_wp2
            go_ret2
            refine ⟨?_, HW4.out⟩
            rw [HE.out, hni]
            unfold prN
            first | rw [if_pos ht, if_pos ht] | rw [if_neg (show ¬ x + (n : Int) < 0 by omega), if_neg (show ¬ x + (n : Int) < 0 by omega)]
            first | (congr 3; done) | (congr 3; simp only [ByteArray.mk_append_mk]; congr 1; simp)
        · obtain ⟨c0, ds0, rfl⟩ := List.exists_cons_of_ne_nil hds
          have hl2 : ds0.length + 1 ≤ 16 := by rw [← hl] at hk; simpa using hk
          have hds2 : ((⟨(c0 :: ds0).toArray⟩ : ByteArray) != ⟨#[]⟩) = true := by
            rfl
          have hI1 := itoa_len (x + (n : Int)) (by omega) (by omega)
          have hI2 := itoa_len (-(x + (n : Int))) (by omega) (by omega)
          by_cases ht : x + (n : Int) < 0
          all_goals
            go_wp2_with fail
            refine (Tryz.strconv_Itoa _ (by omega) (by omega) _ HT2.out).mono ?_
            rintro e w4 ⟨rfl, k4, os, rfl⟩
            have HW4 := Lib.hid (below_grow (below_dn HW.out k4) (by simpa using HW.out.size) os)
            go_wp2
            go_ret2
            refine ⟨?_, HW4.out⟩
            rw [HE.out, hni]
            unfold prN
            first | rw [if_pos ht, if_pos ht] | rw [if_neg (show ¬ x + (n : Int) < 0 by omega), if_neg (show ¬ x + (n : Int) < 0 by omega)]
            first | (congr 3; done) | (congr 3; simp only [ByteArray.mk_append_mk]; congr 1; simp)
      · have hk16 : k < 16 := by
          rcases Nat.lt_or_ge k 16 with h | h
          · exact h
          · have e : k = 16 := by omega
            have := HD.out
            rw [e] at this
            exact absurd (dvd_end HB.out this) hR
        have hRb : ((R : Int) != 0) = true := by rw [bne_iff_ne]; omega
        obtain ⟨q, hq⟩ : ∃ q, R / 2 ^ 60 = q := ⟨_, rfl⟩
        have hqi : (R : Int) / 1152921504606846976 = (q : Int) := by omega
        have hq16 : q < 16 := by have := HB.out; omega
        obtain ⟨R', hR'⟩ : ∃ R', R * 16 % 2 ^ 64 = R' := ⟨_, rfl⟩
        have hwr : IntKind.u64.wrap ((R : Int) * 16) = (R' : Int) := by rw [IntKind.wrap_u64]; omega
        have HX2 := Lib.hid (show digs 16 R0 = (ds ++ [hxDig q]) ++ digs (16 - (k + 1)) R' by rw [HX.out, digs_step hk16 hR, hq, hR', List.append_assoc]; rfl)
        have HB2 := Lib.hid (show R' < 2 ^ 64 by rw [← hR']; exact Nat.mod_lt _ (by omega))
        have HD2 := Lib.hid (show 16 ^ (k + 1) ∣ R' by rw [← hR']; exact dvd_step hk16 HD.out)
        have HTq := Lib.hid (HT.out.below HW.out)
        have HQ := Lib.hid hq16
        have hJ := bs_app ds [hxDig q]
        clear hq hR' hR
        go_wp2_with fail
        refine (fu_walk q (by have := HQ.out; omega) _ HTq.out).mono ?_
        rintro e w4 ⟨rfl, hb4⟩
        rw [hexL_small HQ.out]
        have HW4 := Lib.hid (below_chain HW.out hb4)
        clear hb4
        go_wp2_with fail
        go_roundw
        case rel => exact ⟨_, _, _, _, _, _, _, _, _, _, _, ⟨k + 1, R', ds ++ [hxDig q], rfl, rfl, hk16, by simp [hl], HB2, HD2, HX2, HW4⟩, rfl⟩
        case measure => simp [strLen, hl, ByteArray.size]; omega

set_option maxRecDepth 100000 in
theorem print_rest_S (b : Nat) (hb : b < 4294967296) (hcl : clsN 8388608 2139095040 (b % 2147483648) = 0 ∨ clsN 8388608 2139095040 (b % 2147483648) = 3 ∨ clsN 8388608 2139095040 (b % 2147483648) = 4) (w : World) :
    Calls Tryz.prog 10 #[.int .i64 32, .int .u64 (b : Int)] w fun e w' => e = .returned (.tuple #[.string ⟨(prR (decide (2147483648 ≤ b)) (clsN 8388608 2139095040 (b % 2147483648))).toArray⟩, .int .i64 0]) ∧ Below w.heap.size w w' := by
  obtain ⟨neg, hneg⟩ : ∃ neg, decide (2147483648 ≤ b) = neg := ⟨_, rfl⟩
  have hng : ((b : Int) / 2147483648 != 0) = neg := by
    rw [← hneg, Bool.eq_iff_iff, bne_iff_ne, decide_eq_true_iff]; omega
  have C1 := Lib.hid (classOf_S b hb)
  rw [hneg]
  obtain ⟨c, hc⟩ : ∃ c, clsN 8388608 2139095040 (b % 2147483648) = c := ⟨_, rfl⟩
  rw [hc] at C1 hcl ⊢
  clear hneg hb hc
  rcases hcl with rfl | rfl | rfl
  all_goals
    cases neg
    all_goals
      go_enter Tryz.func10, Tryz.ntmps10
      go_wp2_with fail
      refine (C1.out _).mono ?_
      rintro e w1 ⟨rfl, hb1⟩
      go_wp2
      go_ret2
      exact ⟨rfl, hb1⟩

set_option maxRecDepth 100000 in
set_option maxHeartbeats 2000000 in
theorem print_num_D (b : Nat) (hb : b < 18446744073709551616) (hz0 : b % 9223372036854775808 ≠ 0) (hfin : b % 9223372036854775808 < 9218868437227405312) (w : World) (ht : Tab64 w) (h10 : Tab10 w) :
    Calls Tryz.prog 10 #[.int .i64 64, .int .u64 (b : Int)] w fun e w' => e = .returned (.tuple #[.string ⟨(prN (decide (9223372036854775808 ≤ b)) (digs 16 (fracOf (ptM 4503599627370496 (b % 9223372036854775808)))) (ptE 4503599627370496 (-1074) (b % 9223372036854775808) + ((blen (ptM 4503599627370496 (b % 9223372036854775808)) - 1 : Nat) : Int))).toArray⟩, .int .i64 0]) ∧ Below w.heap.size w w' := by
  obtain ⟨neg, hneg⟩ : ∃ neg, decide (9223372036854775808 ≤ b) = neg := ⟨_, rfl⟩
  have hng : ((b : Int) / 9223372036854775808 != 0) = neg := by
    rw [← hneg, Bool.eq_iff_iff, bne_iff_ne, decide_eq_true_iff]; omega
  have hcl : clsN 4503599627370496 9218868437227405312 (b % 9223372036854775808) = 1 ∨ clsN 4503599627370496 9218868437227405312 (b % 9223372036854775808) = 2 := by
    unfold clsN; rw [if_neg hz0]
    split
    · exact .inl rfl
    · try rw [if_pos hfin]
      exact .inr rfl
  obtain ⟨c, hc⟩ : ∃ c, clsN 4503599627370496 9218868437227405312 (b % 9223372036854775808) = c := ⟨_, rfl⟩
  rw [hc] at hcl
  have hc4 : ((c : Int) == 4) = false := by rw [beq_eq_false_iff_ne]; omega
  have hc3 : ((c : Int) == 3) = false := by rw [beq_eq_false_iff_ne]; omega
  have hc0 : ((c : Int) == 0) = false := by rw [beq_eq_false_iff_ne]; omega
  have hm1 : ptM 4503599627370496 (b % 9223372036854775808) ≠ 0 ∧ ptM 4503599627370496 (b % 9223372036854775808) < 2 ^ 53 := by
    unfold ptM
    split <;> omega
  have hx1 : -1100 ≤ ptE 4503599627370496 (-1074) (b % 9223372036854775808) ∧ ptE 4503599627370496 (-1074) (b % 9223372036854775808) ≤ 1100 := by
    unfold ptE
    split <;> omega
  obtain ⟨m, hm⟩ : ∃ m, ptM 4503599627370496 (b % 9223372036854775808) = m := ⟨_, rfl⟩
  obtain ⟨x, hx⟩ : ∃ x, ptE 4503599627370496 (-1074) (b % 9223372036854775808) = x := ⟨_, rfl⟩
  rw [hm] at hm1
  rw [hx] at hx1
  have hbl1 := blen_pos hm1.1
  have hbl2 : blen m ≤ 53 := blen_le.2 hm1.2
  have hm64 : (m : Int) ≤ 18446744073709551615 := by have := hm1.2; omega
  have hLb : Lib.bitLen m = blen m := bitLen_blen (by rw [W64_num]; have := hm1.2; omega)
  have C1 := Lib.hid (classOf_D b hb)
  have C2 := Lib.hid (split_D b hb hfin)
  rw [hc] at C1
  rw [hneg, hm, hx] at C2
  rw [hneg, hm, hx]
  obtain ⟨n, hn⟩ : ∃ n, blen m = n + 1 := ⟨blen m - 1, by omega⟩
  have hnM : n < 53 := by omega
  rw [hn] at hLb ⊢
  have HLb := Lib.hid hLb
  obtain ⟨R0, hR0⟩ : ∃ R0, fracOf m = R0 := ⟨_, rfl⟩
  have hfr : m * 2 ^ (63 - n) % 2 ^ 64 * 2 % 2 ^ 64 = R0 := by rw [← hR0]; unfold fracOf; rw [hn]; rfl
  have hR64 : R0 < 2 ^ 64 := by rw [← hfr]; exact Nat.mod_lt _ (by omega)
  rw [hR0]
  have hRz : IntKind.u64.wrap (IntKind.u64.wrap ((m : Int) * 2 ^ (63 - n)) * 2) = (R0 : Int) := by
    have hA : (m : Int) * 2 ^ (63 - n) = ((m * 2 ^ (63 - n) : Nat) : Int) := by rw [Int.natCast_mul, Int.natCast_pow]; rfl
    rw [hA, IntKind.wrap_u64, IntKind.wrap_u64]
    generalize m * 2 ^ (63 - n) = a at hfr ⊢
    omega
  have HR := Lib.hid hR64
  have HT := Lib.hid ht
  have H10 := Lib.hid h10
  have HM := Lib.hid hm64
  obtain ⟨hx2, hx3⟩ := hx1
  clear hneg hc hm hx hm1 hb hz0 hfin hcl hbl1 hbl2 hLb hn hR0 hfr hR64 ht h10 hm64
  go_enter Tryz.func10, Tryz.ntmps10
  go_wp2_with fail
  refine (C1.out _).mono ?_
  rintro e w1 ⟨rfl, hb1⟩
  cases neg
  all_goals
    go_wp2_with fail
    refine (C2.out _).mono ?_
    rintro e w2 ⟨rfl, hb2⟩
    have HW := Lib.hid (below_chain hb1 hb2)
    go_wp2_with fail
    refine (Tryz.bits_Len64 _ _ (by omega) HM.out).mono ?_
    rintro e w3 ⟨rfl, rfl⟩
    simp only [Int.toNat_natCast]
    rw [HLb.out]
    clear hb1 hb2
    go_wp2_with fail
    go_loopw [13, 14] (fun D r wr => ∃ (k R : Nat) (ds : List UInt8), D = .string ⟨ds.toArray⟩ ∧ r = .int .u64 (R : Int) ∧ k ≤ 16 ∧ ds.length = k ∧ Hid (R < 2 ^ 64) ∧ Hid (16 ^ k ∣ R) ∧ Hid (digs 16 R0 = ds ++ digs (16 - k) R) ∧ Hid (RowKit.Below w.heap.size w wr)) (fun D _ _ => 16 - strLen D)
    case atStart => exact ⟨0, R0, [], rfl, rfl, by omega, rfl, HR, Lib.hid ⟨R0, by simp⟩, Lib.hid rfl, HW⟩
    case round =>
      obtain ⟨k, R, ds, rfl, rfl, hk, hl, HB, HD, HX, HW⟩ := hrel
      by_cases hR : R = 0
      · subst hR
        have HE := Lib.hid (show digs 16 R0 = ds by rw [HX.out, digs_zero, List.append_nil])
        have h0 : (((0 : Nat) : Int) != 0) = false := rfl
        have HT2 := Lib.hid (H10.out.below HW.out)
        have hni : ((n + 1 - 1 : Nat) : Int) = (n : Int) := by omega
        by_cases hds : ds = []
        · subst hds
          have hI1 := itoa_len (x + (n : Int)) (by omega) (by omega)
          have hI2 := itoa_len (-(x + (n : Int))) (by omega) (by omega)
          by_cases ht : x + (n : Int) < 0
          all_goals
            go_wp2_with fail
            refine (Tryz.strconv_Itoa _ (by omega) (by omega) _ HT2.out).mono ?_
            rintro e w4 ⟨rfl, k4, os, rfl⟩
            have HW4 := Lib.hid (below_grow (below_dn HW.out k4) (by simpa using HW.out.size) os)
            go_wp2
            go_ret2
            refine ⟨?_, HW4.out⟩
            rw [HE.out, hni]
            unfold prN
            first | rw [if_pos ht, if_pos ht] | rw [if_neg (show ¬ x + (n : Int) < 0 by omega), if_neg (show ¬ x + (n : Int) < 0 by omega)]
            first | (congr 3; done) | (congr 3; simp only [ByteArray.mk_append_mk]; congr 1; simp)
        · obtain ⟨c0, ds0, rfl⟩ := List.exists_cons_of_ne_nil hds
          have hl2 : ds0.length + 1 ≤ 16 := by rw [← hl] at hk; simpa using hk
          have hds2 : ((⟨(c0 :: ds0).toArray⟩ : ByteArray) != ⟨#[]⟩) = true := by
            rfl
          have hI1 := itoa_len (x + (n : Int)) (by omega) (by omega)
          have hI2 := itoa_len (-(x + (n : Int))) (by omega) (by omega)
          by_cases ht : x + (n : Int) < 0
          all_goals
            go_wp2_with fail
            refine (Tryz.strconv_Itoa _ (by omega) (by omega) _ HT2.out).mono ?_
            rintro e w4 ⟨rfl, k4, os, rfl⟩
            have HW4 := Lib.hid (below_grow (below_dn HW.out k4) (by simpa using HW.out.size) os)
            go_wp2
            go_ret2
            refine ⟨?_, HW4.out⟩
            rw [HE.out, hni]
            unfold prN
            first | rw [if_pos ht, if_pos ht] | rw [if_neg (show ¬ x + (n : Int) < 0 by omega), if_neg (show ¬ x + (n : Int) < 0 by omega)]
            first | (congr 3; done) | (congr 3; simp only [ByteArray.mk_append_mk]; congr 1; simp)
      · have hk16 : k < 16 := by
          rcases Nat.lt_or_ge k 16 with h | h
          · exact h
          · have e : k = 16 := by omega
            have := HD.out
            rw [e] at this
            exact absurd (dvd_end HB.out this) hR
        have hRb : ((R : Int) != 0) = true := by rw [bne_iff_ne]; omega
        obtain ⟨q, hq⟩ : ∃ q, R / 2 ^ 60 = q := ⟨_, rfl⟩
        have hqi : (R : Int) / 1152921504606846976 = (q : Int) := by omega
        have hq16 : q < 16 := by have := HB.out; omega
        obtain ⟨R', hR'⟩ : ∃ R', R * 16 % 2 ^ 64 = R' := ⟨_, rfl⟩
        have hwr : IntKind.u64.wrap ((R : Int) * 16) = (R' : Int) := by rw [IntKind.wrap_u64]; omega
        have HX2 := Lib.hid (show digs 16 R0 = (ds ++ [hxDig q]) ++ digs (16 - (k + 1)) R' by rw [HX.out, digs_step hk16 hR, hq, hR', List.append_assoc]; rfl)
        have HB2 := Lib.hid (show R' < 2 ^ 64 by rw [← hR']; exact Nat.mod_lt _ (by omega))
        have HD2 := Lib.hid (show 16 ^ (k + 1) ∣ R' by rw [← hR']; exact dvd_step hk16 HD.out)
        have HTq := Lib.hid (HT.out.below HW.out)
        have HQ := Lib.hid hq16
        have hJ := bs_app ds [hxDig q]
        clear hq hR' hR
        go_wp2_with fail
        refine (fu_walk q (by have := HQ.out; omega) _ HTq.out).mono ?_
        rintro e w4 ⟨rfl, hb4⟩
        rw [hexL_small HQ.out]
        have HW4 := Lib.hid (below_chain HW.out hb4)
        clear hb4
        go_wp2_with fail
        go_roundw
        case rel => exact ⟨_, _, _, _, _, _, _, _, _, _, _, ⟨k + 1, R', ds ++ [hxDig q], rfl, rfl, hk16, by simp [hl], HB2, HD2, HX2, HW4⟩, rfl⟩
        case measure => simp [strLen, hl, ByteArray.size]; omega

set_option maxRecDepth 100000 in
theorem print_rest_D (b : Nat) (hb : b < 18446744073709551616) (hcl : clsN 4503599627370496 9218868437227405312 (b % 9223372036854775808) = 0 ∨ clsN 4503599627370496 9218868437227405312 (b % 9223372036854775808) = 3 ∨ clsN 4503599627370496 9218868437227405312 (b % 9223372036854775808) = 4) (w : World) :
    Calls Tryz.prog 10 #[.int .i64 64, .int .u64 (b : Int)] w fun e w' => e = .returned (.tuple #[.string ⟨(prR (decide (9223372036854775808 ≤ b)) (clsN 4503599627370496 9218868437227405312 (b % 9223372036854775808))).toArray⟩, .int .i64 0]) ∧ Below w.heap.size w w' := by
  obtain ⟨neg, hneg⟩ : ∃ neg, decide (9223372036854775808 ≤ b) = neg := ⟨_, rfl⟩
  have hng : ((b : Int) / 9223372036854775808 != 0) = neg := by
    rw [← hneg, Bool.eq_iff_iff, bne_iff_ne, decide_eq_true_iff]; omega
  have C1 := Lib.hid (classOf_D b hb)
  rw [hneg]
  obtain ⟨c, hc⟩ : ∃ c, clsN 4503599627370496 9218868437227405312 (b % 9223372036854775808) = c := ⟨_, rfl⟩
  rw [hc] at C1 hcl ⊢
  clear hneg hb hc
  rcases hcl with rfl | rfl | rfl
  all_goals
    cases neg
    all_goals
      go_enter Tryz.func10, Tryz.ntmps10
      go_wp2_with fail
      refine (C1.out _).mono ?_
      rintro e w1 ⟨rfl, hb1⟩
      go_wp2
      go_ret2
      exact ⟨rfl, hb1⟩
end Go.Proofs.YtfacjlffkcbagaaGreatDoor
