/- The walk of gnomonref10.DocPrint (printed by gen_dprint.py). · Walks of gnomonref10.DocPrint at nought, infinity, NaN, and at what is no format or no pattern (printed by gen_dprint2.py). · The walk of HexfloatPrints (printed by gen_prints.py). -/
import Derived.Test.YtooehlneoboenaaGreatDoorVt
import Derived.Test.YtooehlneoboenaaGreatDoorVf
import Derived.Test.YtooehlneoboenaaGreatDoorTf
import Derived.Test.YtooehlneoboenaaGreatDoorLa
namespace Go.Proofs.YtooehlneoboenaaGreatDoor
open Go.RowKit

theorem run_hex (q : Nat) (h : q < 16) (w : World) : (Instr.index 9 (.string ⟨#[48, 49, 50, 51, 52, 53, 54, 55, 56, 57, 97, 98, 99, 100, 101, 102]⟩) (.int .u64 (q : Int))).run Tryz.prog w = .ok (.int .u8 ((hxDig q).toNat : Int)) w := by
  have e : ∀ q : Fin 16, ((#[48, 49, 50, 51, 52, 53, 54, 55, 56, 57, 97, 98, 99, 100, 101, 102] : Array UInt8)[q.val]'q.isLt) = hxDig q.val := by decide
  have h2 : (q : Int) < 16 := by omega
  have h3 : ByteArray.size ⟨#[48, 49, 50, 51, 52, 53, 54, 55, 56, 57, 97, 98, 99, 100, 101, 102]⟩ = 16 := rfl
  have h4 := e ⟨q, h⟩
  simp [go_sem, h2, h3]
  exact congrArg (fun u : UInt8 => (u.toNat : Int)) h4
theorem tdl {a : Nat} (h : a < 2 ^ 64) : (toD a).length ≤ 100000 := by rw [toD_length]; have := blen_le.2 h; omega
theorem enc_hex (q : Nat) (h : q < 16) : Utf8.encode ((hxDig q).toNat : Int) = ⟨[hxDig q].toArray⟩ := by
  have e : ∀ q : Fin 16, Utf8.encode ((hxDig q.val).toNat : Int) = ⟨[hxDig q.val].toArray⟩ := by decide
  exact e ⟨q, h⟩

set_option maxRecDepth 100000 in
set_option maxHeartbeats 4000000 in
theorem dprint_num_S (b : Nat) (hb : b < 4294967296) (hz0 : b % 2147483648 ≠ 0) (hfin : b % 2147483648 < 2139095040) (w : World) (h10 : Tab10 w) :
    Calls Tryz.prog 11 #[.int .i64 32, .int .u64 (b : Int)] w fun e w' => e = .returned (.tuple #[.string ⟨(prN (decide (2147483648 ≤ b)) (digs 16 (fracOf (ptM 8388608 (b % 2147483648)))) (ptE 8388608 (-149) (b % 2147483648) + ((blen (ptM 8388608 (b % 2147483648)) - 1 : Nat) : Int))).toArray⟩, .int .i64 0]) ∧ Below w.heap.size w w' := by
  obtain ⟨neg, hneg⟩ : ∃ neg, decide (2147483648 ≤ b) = neg := ⟨_, rfl⟩
  have hm1 : ptM 8388608 (b % 2147483648) ≠ 0 ∧ ptM 8388608 (b % 2147483648) < 2 ^ 53 := by
    unfold ptM
    split <;> omega
  have hx1 : -1100 ≤ ptE 8388608 (-149) (b % 2147483648) ∧ ptE 8388608 (-149) (b % 2147483648) ≤ 1100 := by
    unfold ptE
    split <;> omega
  have C1 := Lib.hid (rchk_S b hb)
  obtain ⟨sg, I, Q, hC2, hC3, hC4, hzI⟩ : ∃ sg I Q : Int, (∀ w, Calls Tryz.prog 20 #[.int .i64 32] w fun e w' => e = .returned (.tuple #[.agg #[.int .u64 sg, .int .i64 24, .int .i64 (-149), .int .i64 104, .int .u64 I, .int .u64 Q], .bool true]) ∧ Below w.heap.size w w') ∧
      (∀ w, Calls Tryz.prog 25 #[.agg #[.int .u64 sg, .int .i64 24, .int .i64 (-149), .int .i64 104, .int .u64 I, .int .u64 Q], .int .u64 (b : Int)] w fun e w' => e = .returned (.tuple #[.bool (decide (2147483648 ≤ b)), .int .u64 ((b % 2147483648 : Nat) : Int)]) ∧ Below w.heap.size w w') ∧
      (∀ w, Calls Tryz.prog 26 #[.agg #[.int .u64 sg, .int .i64 24, .int .i64 (-149), .int .i64 104, .int .u64 I, .int .u64 Q], .int .u64 ((b % 2147483648 : Nat) : Int)] w fun e w' => e = .returned (.tuple #[.int .u64 ((ptM 8388608 (b % 2147483648) : Nat) : Int), .int .i64 (ptE 8388608 (-149) (b % 2147483648))]) ∧ Below w.heap.size w w') ∧
      ((b % 2147483648 : Nat) : Int) < I :=
    ⟨2147483648, 2139095040, 2143289345, rof07_S, rcut_S b (by omega), rparts_S _ (by omega), by omega⟩
  obtain ⟨m, hm⟩ : ∃ m, ptM 8388608 (b % 2147483648) = m := ⟨_, rfl⟩
  obtain ⟨x, hx⟩ : ∃ x, ptE 8388608 (-149) (b % 2147483648) = x := ⟨_, rfl⟩
  rw [hm, hx] at hC4
  rw [hneg] at hC3
  rw [hm] at hm1
  rw [hx] at hx1
  rw [hneg, hm, hx]
  obtain ⟨z, hz⟩ : ∃ z, b % 2147483648 = z := ⟨_, rfl⟩
  rw [hz] at hC3 hC4 hzI hz0
  have hzz : ((z : Int) == 0) = false := by rw [beq_eq_false_iff_ne]; omega
  have hzi : ((z : Int) == I) = false := by rw [beq_eq_false_iff_ne]; omega
  have C2 := Lib.hid hC2
  have C3 := Lib.hid hC3
  have C4 := Lib.hid hC4
  have H10 := Lib.hid h10
  obtain ⟨hx2, hx3⟩ := hx1
  have HM := Lib.hid hm1
  obtain ⟨n, hn⟩ : ∃ n, blen m = n + 1 := ⟨blen m - 1, by have := blen_pos hm1.1; omega⟩
  have hn53 : n < 53 := by have := blen_le.2 hm1.2; omega
  have HN := Lib.hid hn
  obtain ⟨DS, hDS⟩ : ∃ DS, digs 16 (fracOf m) = DS := ⟨_, rfl⟩
  have HDS := Lib.hid hDS
  rw [hn, hDS, Nat.add_sub_cancel]
  clear hn hDS
  clear hneg hb hfin hC2 hC3 hC4 hz hm hx h10 hm1 hz0
  go_enter Tryz.func11, Tryz.ntmps11
  go_wp2_with fail
  refine (C1.out _).mono ?_
  rintro e w1 ⟨rfl, hb1⟩
  go_wp2_with fail
  refine (C2.out _).mono ?_
  rintro e w2 ⟨rfl, hb2⟩
  have hb2a := below_chain hb1 hb2
  have HW2 := Lib.hid (below_chain hb2a (below_alloc' w2 (.cells #[.int .u64 sg, .int .i64 24, .int .i64 (-149), .int .i64 104, .int .u64 I, .int .u64 Q] 58)))
  clear hb1 hb2 hb2a
  go_wp2_with fail
  refine (C3.out _).mono ?_
  rintro e w3 ⟨rfl, hb3⟩
  have y0 : w3.cell? ⟨w2.heap.size, 0, none⟩ = some (.int .u64 sg) := cell_kept hb3 (by simp)
  have y1 : w3.cell? ⟨w2.heap.size, 1, none⟩ = some (.int .i64 24) := cell_kept hb3 (by simp)
  have y2 : w3.cell? ⟨w2.heap.size, 2, none⟩ = some (.int .i64 (-149)) := cell_kept hb3 (by simp)
  have y3 : w3.cell? ⟨w2.heap.size, 3, none⟩ = some (.int .i64 104) := cell_kept hb3 (by simp)
  have y4 : w3.cell? ⟨w2.heap.size, 4, none⟩ = some (.int .u64 I) := cell_kept hb3 (by simp)
  have y5 : w3.cell? ⟨w2.heap.size, 5, none⟩ = some (.int .u64 Q) := cell_kept hb3 (by simp)
  have HW3 := Lib.hid (below_chain HW2.out hb3)
  clear hb3
  cases neg
  all_goals
    go_wp2_with fail
    refine (C4.out _).mono ?_
    rintro e w4 ⟨rfl, hb4⟩
    have HW4 := Lib.hid (below_chain HW3.out hb4)
    clear hb4 y0 y1 y2 y3 y4 y5
    go_wp2_with fail
    go_loop [12, 13] (fun M X => ∃ a j : Nat, M = .int .u64 (a : Int) ∧ X = .int .i64 (x + (j : Int)) ∧ j ≤ 60 ∧ Hid (a * 2 ^ j = m)) (fun M _ => (intOf M).toNat)
    case atStart => exact ⟨m, 0, rfl, by simp, by omega, Lib.hid (by simp)⟩
    case round =>
      obtain ⟨a, j, rfl, rfl, hj, HA⟩ := hrel
      have ha0 : a ≠ 0 := fun e => HM.out.1 (by rw [← HA.out, e, Nat.zero_mul])
      have hbl : blen m = blen a + j := by rw [← HA.out, blen_mul_pow ha0]
      have hbm : blen m ≤ 53 := blen_le.2 HM.out.2
      have hba := blen_pos ha0
      have haM : a < 2 ^ 53 := blen_le.1 (by omega)
      have hj2 : j < 53 := by omega
      have HB := Lib.hid hbl
      have HBa := Lib.hid hba
      have HBm := Lib.hid hbm
      have HA0 := Lib.hid ha0
      have HAM := Lib.hid haM
      have p1 : IntKind.i64.wrap (x + (j : Int) + 1) = x + ((j + 1 : Nat) : Int) := by rw [IntKind.wrap_i64]; omega
      by_cases hev : a % 2 = 0
      · have hpar : ((a : Int) % 2 == 0) = true := by rw [beq_iff_eq]; omega
        have p2 : IntKind.u64.wrap ((a : Int) / 2) = ((a / 2 : Nat) : Int) := by rw [IntKind.wrap_u64]; omega
        have hlt : a / 2 < a := by omega
        have HA2 := Lib.hid (show a / 2 * 2 ^ (j + 1) = m by rw [Nat.pow_succ, ← HA.out, Nat.mul_comm (2 ^ j) 2, ← Nat.mul_assoc]; congr 1; omega)
        clear ha0 hbl hbm hba haM hev
        go_wp2
        go_round
        case rel => exact ⟨a / 2, j + 1, rfl, rfl, by omega, HA2⟩
        case measure => simp [intOf]; omega
      · have hpar : ((a : Int) % 2 == 0) = false := by rw [beq_eq_false_iff_ne]; omega
        clear ha0 hbl hbm hba haM
        have HWo := Lib.hid (fun w => rword_walk a (by have := HAM.out; omega) w)
        go_wp2_with fail
        refine (HWo.out _).mono ?_
        rintro e w5 ⟨v5, rfl, hd5, hb5⟩
        have HB5 := Lib.hid (rbits_walk v5 a w5 hd5 (tdl (by have := HAM.out; omega)))
        have HW5 := Lib.hid (below_chain HW4.out hb5)
        clear hd5 hb5
        have q1 : IntKind.i64.wrap (x + (j : Int) + ((blen a : Nat) : Int)) = x + (n : Int) + 1 := by have := HB.out; have := HN.out; rw [IntKind.wrap_i64]; omega
        have q2 : IntKind.i64.wrap (x + (n : Int) + 1 - 1) = x + (n : Int) := by rw [IntKind.wrap_i64]; omega
        go_wp2_with fail
        refine HB5.out.mono ?_
        rintro e w6 ⟨rfl, rfl⟩
        go_wp2_with fail
        clear p1 q1 q2 HWo HB5
        go_loopw [12] (fun M wr => ∃ c i : Nat, M = .int .u64 (c : Int) ∧ Hid (c = a * 2 ^ i) ∧ Hid (i = 0 ∨ i + (blen a - 1) % 4 ≤ 4 ∧ (blen a - 1) % 4 ≠ 0) ∧ Hid (RowKit.Below w.heap.size w wr)) (fun M _ => 2 ^ 60 - (intOf M).toNat)
        case atStart => exact ⟨a, 0, rfl, Lib.hid (by simp), Lib.hid (.inl rfl), HW5⟩
        case round =>
          obtain ⟨c, i, rfl, HC, HI, HW⟩ := hrel
          have hbc : blen c = blen a + i := by rw [HC.out, blen_mul_pow HA0.out]
          have hi3 : i ≤ 3 := by have := HI.out; omega
          have hcM : c < 2 ^ 57 := blen_le.1 (by have := HBm.out; have := HB.out; omega)
          have hc0 : c ≠ 0 := by intro e; have := HBa.out; rw [e, blen_zero] at hbc; omega
          have HBc := Lib.hid hbc
          have HI3 := Lib.hid hi3
          have HCM := Lib.hid hcM
          have HC0 := Lib.hid hc0
          have hbc1 : 1 ≤ blen c := blen_pos hc0
          have hbcM : blen c ≤ 57 := blen_le.2 hcM
          obtain ⟨B, hB⟩ : ∃ B, blen c = B := ⟨_, rfl⟩
          have HWo := Lib.hid (fun w => rword_walk c (by omega) w)
          have HBt := Lib.hid (fun v w (h : DgAt w v c) => rbits_walk v c w h (tdl (by have := HCM.out; omega)))
          rw [hB] at HBt hbc1 hbcM HBc
          clear hbc hi3 hcM hc0
          have q1 : IntKind.i64.wrap ((B : Int) - 1) = (B : Int) - 1 := by rw [IntKind.wrap_i64]; omega
          have q2 : ((B : Int) - 1).tmod 4 = ((B : Int) - 1) % 4 := Int.tmod_eq_emod_of_nonneg (by omega)
          by_cases hq : (B - 1) % 4 = 0
          · have hqb : (((B : Int) - 1) % 4 != 0) = false := by rw [bne_eq_false_iff_eq]; omega
            obtain ⟨k, hk⟩ : ∃ k, B = 4 * k + 1 := ⟨(B - 1) / 4, by omega⟩
            have HG := Lib.hid (frac_all HA0.out (by omega) HA.out (by have := HBm.out; omega) HC.out HI3.out (hB.trans hk) (by omega))
            have HTD := Lib.hid (fun i hi => top_dig (c := c) (k := k) (i := i) (hB.trans hk) hi)
            have hk16 : k < 16 := by omega
            clear hB hk hq
            go_wp2_with fail
            refine (HWo.out _).mono ?_
            rintro e w7 ⟨v7, rfl, hd7, hb7⟩
            have HD7 := Lib.hid hd7
            have HW7 := Lib.hid (below_chain HW.out hb7)
            clear hd7 hb7
            go_wp2_with fail
            refine (HBt.out _ _ HD7.out).mono ?_
            rintro e w8 ⟨rfl, rfl⟩
            go_wp2_with fail
            clear HBt HWo q1 q2 hqb HI
            go_loop [12, 14] (fun M D => ∃ (r l : Nat) (ds : List UInt8), M = .int .u64 (r : Int) ∧ D = .string ⟨ds.toArray⟩ ∧ ds.length = l ∧ l ≤ k ∧ Hid (r = c / 16 ^ l) ∧ Hid (ds = gx l (c % 16 ^ l))) (fun M _ => (intOf M).toNat)
            case atStart => exact ⟨c, 0, [], rfl, rfl, rfl, by omega, Lib.hid (by simp), Lib.hid rfl⟩
            case round =>
              obtain ⟨r, l, ds, rfl, rfl, hl, hlk, HR, HX⟩ := hrel
              rcases HTD.out l hlk with ⟨e1, e2⟩ | ⟨e1, e2⟩
              · rw [← HR.out] at e2
                subst e2
                have HE := Lib.hid (show ds = DS by rw [HX.out, e1, ← HG.out, HDS.out])
                have hlD : ds.length ≤ 16 := by omega
                clear hl hlk
                have HT2 := Lib.hid (H10.out.below HW7.out)
                have hI1 := itoa_len (x + (n : Int)) (by omega) (by omega)
                by_cases hds : ds = []
                · subst hds
                  by_cases ht : x + (n : Int) < 0
                  all_goals
                    go_wp2_with fail
                    refine (Tryz.strconv_Itoa _ (by omega) (by omega) _ HT2.out).mono ?_
                    rintro e w9 ⟨rfl, k9, os, rfl⟩
                    have HW9 := Lib.hid (below_grow (below_dn HW7.out k9) (by simpa using HW7.out.size) os)
                    go_wp2
                    go_ret2
                    refine ⟨?_, HW9.out⟩
                    rw [← HE.out, prN_eq]
                    first | rw [if_neg (show ¬ 0 ≤ x + (n : Int) by omega)] | rw [if_pos (show 0 ≤ x + (n : Int) by omega)]
                    first | (congr 3; done) | (congr 3; simp only [ByteArray.mk_append_mk]; congr 1; simp)
                · obtain ⟨c0, ds0, rfl⟩ := List.exists_cons_of_ne_nil hds
                  have hl2 : ds0.length + 1 ≤ 16 := by simpa using hlD
                  have hds2 : ((⟨(c0 :: ds0).toArray⟩ : ByteArray) != ⟨#[]⟩) = true := by
                    rfl
                  by_cases ht : x + (n : Int) < 0
                  all_goals
                    go_wp2_with fail
                    refine (Tryz.strconv_Itoa _ (by omega) (by omega) _ HT2.out).mono ?_
                    rintro e w9 ⟨rfl, k9, os, rfl⟩
                    have HW9 := Lib.hid (below_grow (below_dn HW7.out k9) (by simpa using HW7.out.size) os)
                    go_wp2
                    go_ret2
                    refine ⟨?_, HW9.out⟩
                    rw [← HE.out, prN_eq]
                    first | rw [if_neg (show ¬ 0 ≤ x + (n : Int) by omega)] | rw [if_pos (show 0 ≤ x + (n : Int) by omega)]
                    first | (congr 3; done) | (congr 3; simp only [ByteArray.mk_append_mk]; congr 1; simp)
              · rw [← HR.out] at e2
                have HR16 := Lib.hid e2
                obtain ⟨q, hq⟩ : ∃ q, r % 16 = q := ⟨_, rfl⟩
                have hq16 : q < 16 := by omega
                have hqi : (r : Int) % 16 = (q : Int) := by omega
                have hix := fun w => run_hex q hq16 w
                have henc := enc_hex q hq16
                have hJ := bs_app [hxDig q] ds
                have hdv : IntKind.u64.wrap ((r : Int) / 16) = ((r / 16 : Nat) : Int) := by have := HR.out; have := HCM.out; have := Nat.div_le_self c (16 ^ l); rw [IntKind.wrap_u64]; omega
                have hgt : 1 < (r : Int) := by omega
                have HR2 := Lib.hid (show r / 16 = c / 16 ^ (l + 1) by rw [HR.out, Nat.div_div_eq_div_mul, Nat.pow_succ])
                have HX2 := Lib.hid (show hxDig q :: ds = gx (l + 1) (c % 16 ^ (l + 1)) by rw [gx_step, ← HX.out, ← HR.out, hq])
                have HLK := Lib.hid e1
                have HL := Lib.hid hl
                have hl3 : ds.length ≤ 16 := by omega
                clear hq hlk e1 e2 hl
                generalize hxDig q = dq at *
                go_wp2_with fail
                go_round
                case rel => exact ⟨r / 16, l + 1, dq :: ds, rfl, rfl, by simp [HL.out], HLK.out, HR2, HX2⟩
                case measure => have := HR16.out; simp [intOf]; omega
          · have hqb : (((B : Int) - 1) % 4 != 0) = true := by rw [bne_iff_ne]; omega
            have q3 : IntKind.u64.wrap ((c : Int) * 2) = ((c * 2 : Nat) : Int) := by have := HCM.out; rw [IntKind.wrap_u64]; omega
            have HC2 := Lib.hid (show c * 2 = a * 2 ^ (i + 1) by rw [Nat.pow_succ, ← Nat.mul_assoc, ← HC.out])
            have HI2 := Lib.hid (show i + 1 = 0 ∨ i + 1 + (blen a - 1) % 4 ≤ 4 ∧ (blen a - 1) % 4 ≠ 0 by have := HI.out; have := HBc.out; have := HBa.out; omega)
            clear hB hq
            go_wp2_with fail
            refine (HWo.out _).mono ?_
            rintro e w7 ⟨v7, rfl, hd7, hb7⟩
            have HD7 := Lib.hid hd7
            have HW7 := Lib.hid (below_chain HW.out hb7)
            clear hd7 hb7
            go_wp2_with fail
            refine (HBt.out _ _ HD7.out).mono ?_
            rintro e w8 ⟨rfl, rfl⟩
            go_wp2
            go_round
            case rel => exact ⟨c * 2, i + 1, rfl, HC2, HI2, HW7⟩
            case measure => have := HC0.out; have := HCM.out; simp [intOf]; omega

set_option maxRecDepth 100000 in
set_option maxHeartbeats 4000000 in
theorem dprint_num_D (b : Nat) (hb : b < 18446744073709551616) (hz0 : b % 9223372036854775808 ≠ 0) (hfin : b % 9223372036854775808 < 9218868437227405312) (w : World) (h10 : Tab10 w) :
    Calls Tryz.prog 11 #[.int .i64 64, .int .u64 (b : Int)] w fun e w' => e = .returned (.tuple #[.string ⟨(prN (decide (9223372036854775808 ≤ b)) (digs 16 (fracOf (ptM 4503599627370496 (b % 9223372036854775808)))) (ptE 4503599627370496 (-1074) (b % 9223372036854775808) + ((blen (ptM 4503599627370496 (b % 9223372036854775808)) - 1 : Nat) : Int))).toArray⟩, .int .i64 0]) ∧ Below w.heap.size w w' := by
  obtain ⟨neg, hneg⟩ : ∃ neg, decide (9223372036854775808 ≤ b) = neg := ⟨_, rfl⟩
  have hm1 : ptM 4503599627370496 (b % 9223372036854775808) ≠ 0 ∧ ptM 4503599627370496 (b % 9223372036854775808) < 2 ^ 53 := by
    unfold ptM
    split <;> omega
  have hx1 : -1100 ≤ ptE 4503599627370496 (-1074) (b % 9223372036854775808) ∧ ptE 4503599627370496 (-1074) (b % 9223372036854775808) ≤ 1100 := by
    unfold ptE
    split <;> omega
  have C1 := Lib.hid (rchk_D b hb)
  obtain ⟨sg, I, Q, hC2, hC3, hC4, hzI⟩ : ∃ sg I Q : Int, (∀ w, Calls Tryz.prog 20 #[.int .i64 64] w fun e w' => e = .returned (.tuple #[.agg #[.int .u64 sg, .int .i64 53, .int .i64 (-1074), .int .i64 971, .int .u64 I, .int .u64 Q], .bool true]) ∧ Below w.heap.size w w') ∧
      (∀ w, Calls Tryz.prog 25 #[.agg #[.int .u64 sg, .int .i64 53, .int .i64 (-1074), .int .i64 971, .int .u64 I, .int .u64 Q], .int .u64 (b : Int)] w fun e w' => e = .returned (.tuple #[.bool (decide (9223372036854775808 ≤ b)), .int .u64 ((b % 9223372036854775808 : Nat) : Int)]) ∧ Below w.heap.size w w') ∧
      (∀ w, Calls Tryz.prog 26 #[.agg #[.int .u64 sg, .int .i64 53, .int .i64 (-1074), .int .i64 971, .int .u64 I, .int .u64 Q], .int .u64 ((b % 9223372036854775808 : Nat) : Int)] w fun e w' => e = .returned (.tuple #[.int .u64 ((ptM 4503599627370496 (b % 9223372036854775808) : Nat) : Int), .int .i64 (ptE 4503599627370496 (-1074) (b % 9223372036854775808))]) ∧ Below w.heap.size w w') ∧
      ((b % 9223372036854775808 : Nat) : Int) < I :=
    ⟨9223372036854775808, 9218868437227405312, 9221120237041090561, rof07_D, rcut_D b (by omega), rparts_D _ (by omega), by omega⟩
  obtain ⟨m, hm⟩ : ∃ m, ptM 4503599627370496 (b % 9223372036854775808) = m := ⟨_, rfl⟩
  obtain ⟨x, hx⟩ : ∃ x, ptE 4503599627370496 (-1074) (b % 9223372036854775808) = x := ⟨_, rfl⟩
  rw [hm, hx] at hC4
  rw [hneg] at hC3
  rw [hm] at hm1
  rw [hx] at hx1
  rw [hneg, hm, hx]
  obtain ⟨z, hz⟩ : ∃ z, b % 9223372036854775808 = z := ⟨_, rfl⟩
  rw [hz] at hC3 hC4 hzI hz0
  have hzz : ((z : Int) == 0) = false := by rw [beq_eq_false_iff_ne]; omega
  have hzi : ((z : Int) == I) = false := by rw [beq_eq_false_iff_ne]; omega
  have C2 := Lib.hid hC2
  have C3 := Lib.hid hC3
  have C4 := Lib.hid hC4
  have H10 := Lib.hid h10
  obtain ⟨hx2, hx3⟩ := hx1
  have HM := Lib.hid hm1
  obtain ⟨n, hn⟩ : ∃ n, blen m = n + 1 := ⟨blen m - 1, by have := blen_pos hm1.1; omega⟩
  have hn53 : n < 53 := by have := blen_le.2 hm1.2; omega
  have HN := Lib.hid hn
  obtain ⟨DS, hDS⟩ : ∃ DS, digs 16 (fracOf m) = DS := ⟨_, rfl⟩
  have HDS := Lib.hid hDS
  rw [hn, hDS, Nat.add_sub_cancel]
  clear hn hDS
  clear hneg hb hfin hC2 hC3 hC4 hz hm hx h10 hm1 hz0
  go_enter Tryz.func11, Tryz.ntmps11
  go_wp2_with fail
  refine (C1.out _).mono ?_
  rintro e w1 ⟨rfl, hb1⟩
  go_wp2_with fail
  refine (C2.out _).mono ?_
  rintro e w2 ⟨rfl, hb2⟩
  have hb2a := below_chain hb1 hb2
  have HW2 := Lib.hid (below_chain hb2a (below_alloc' w2 (.cells #[.int .u64 sg, .int .i64 53, .int .i64 (-1074), .int .i64 971, .int .u64 I, .int .u64 Q] 58)))
  clear hb1 hb2 hb2a
  go_wp2_with fail
  refine (C3.out _).mono ?_
  rintro e w3 ⟨rfl, hb3⟩
  have y0 : w3.cell? ⟨w2.heap.size, 0, none⟩ = some (.int .u64 sg) := cell_kept hb3 (by simp)
  have y1 : w3.cell? ⟨w2.heap.size, 1, none⟩ = some (.int .i64 53) := cell_kept hb3 (by simp)
  have y2 : w3.cell? ⟨w2.heap.size, 2, none⟩ = some (.int .i64 (-1074)) := cell_kept hb3 (by simp)
  have y3 : w3.cell? ⟨w2.heap.size, 3, none⟩ = some (.int .i64 971) := cell_kept hb3 (by simp)
  have y4 : w3.cell? ⟨w2.heap.size, 4, none⟩ = some (.int .u64 I) := cell_kept hb3 (by simp)
  have y5 : w3.cell? ⟨w2.heap.size, 5, none⟩ = some (.int .u64 Q) := cell_kept hb3 (by simp)
  have HW3 := Lib.hid (below_chain HW2.out hb3)
  clear hb3
  cases neg
  all_goals
    go_wp2_with fail
    refine (C4.out _).mono ?_
    rintro e w4 ⟨rfl, hb4⟩
    have HW4 := Lib.hid (below_chain HW3.out hb4)
    clear hb4 y0 y1 y2 y3 y4 y5
    go_wp2_with fail
    go_loop [12, 13] (fun M X => ∃ a j : Nat, M = .int .u64 (a : Int) ∧ X = .int .i64 (x + (j : Int)) ∧ j ≤ 60 ∧ Hid (a * 2 ^ j = m)) (fun M _ => (intOf M).toNat)
    case atStart => exact ⟨m, 0, rfl, by simp, by omega, Lib.hid (by simp)⟩
    case round =>
      obtain ⟨a, j, rfl, rfl, hj, HA⟩ := hrel
      have ha0 : a ≠ 0 := fun e => HM.out.1 (by rw [← HA.out, e, Nat.zero_mul])
      have hbl : blen m = blen a + j := by rw [← HA.out, blen_mul_pow ha0]
      have hbm : blen m ≤ 53 := blen_le.2 HM.out.2
      have hba := blen_pos ha0
      have haM : a < 2 ^ 53 := blen_le.1 (by omega)
      have hj2 : j < 53 := by omega
      have HB := Lib.hid hbl
      have HBa := Lib.hid hba
      have HBm := Lib.hid hbm
      have HA0 := Lib.hid ha0
      have HAM := Lib.hid haM
      have p1 : IntKind.i64.wrap (x + (j : Int) + 1) = x + ((j + 1 : Nat) : Int) := by rw [IntKind.wrap_i64]; omega
      by_cases hev : a % 2 = 0
      · have hpar : ((a : Int) % 2 == 0) = true := by rw [beq_iff_eq]; omega
        have p2 : IntKind.u64.wrap ((a : Int) / 2) = ((a / 2 : Nat) : Int) := by rw [IntKind.wrap_u64]; omega
        have hlt : a / 2 < a := by omega
        have HA2 := Lib.hid (show a / 2 * 2 ^ (j + 1) = m by rw [Nat.pow_succ, ← HA.out, Nat.mul_comm (2 ^ j) 2, ← Nat.mul_assoc]; congr 1; omega)
        clear ha0 hbl hbm hba haM hev
        go_wp2
        go_round
        case rel => exact ⟨a / 2, j + 1, rfl, rfl, by omega, HA2⟩
        case measure => simp [intOf]; omega
      · have hpar : ((a : Int) % 2 == 0) = false := by rw [beq_eq_false_iff_ne]; omega
        clear ha0 hbl hbm hba haM
        have HWo := Lib.hid (fun w => rword_walk a (by have := HAM.out; omega) w)
        go_wp2_with fail
        refine (HWo.out _).mono ?_
        rintro e w5 ⟨v5, rfl, hd5, hb5⟩
        have HB5 := Lib.hid (rbits_walk v5 a w5 hd5 (tdl (by have := HAM.out; omega)))
        have HW5 := Lib.hid (below_chain HW4.out hb5)
        clear hd5 hb5
        have q1 : IntKind.i64.wrap (x + (j : Int) + ((blen a : Nat) : Int)) = x + (n : Int) + 1 := by have := HB.out; have := HN.out; rw [IntKind.wrap_i64]; omega
        have q2 : IntKind.i64.wrap (x + (n : Int) + 1 - 1) = x + (n : Int) := by rw [IntKind.wrap_i64]; omega
        go_wp2_with fail
        refine HB5.out.mono ?_
        rintro e w6 ⟨rfl, rfl⟩
        go_wp2_with fail
        clear p1 q1 q2 HWo HB5
        go_loopw [12] (fun M wr => ∃ c i : Nat, M = .int .u64 (c : Int) ∧ Hid (c = a * 2 ^ i) ∧ Hid (i = 0 ∨ i + (blen a - 1) % 4 ≤ 4 ∧ (blen a - 1) % 4 ≠ 0) ∧ Hid (RowKit.Below w.heap.size w wr)) (fun M _ => 2 ^ 60 - (intOf M).toNat)
        case atStart => exact ⟨a, 0, rfl, Lib.hid (by simp), Lib.hid (.inl rfl), HW5⟩
        case round =>
          obtain ⟨c, i, rfl, HC, HI, HW⟩ := hrel
          have hbc : blen c = blen a + i := by rw [HC.out, blen_mul_pow HA0.out]
          have hi3 : i ≤ 3 := by have := HI.out; omega
          have hcM : c < 2 ^ 57 := blen_le.1 (by have := HBm.out; have := HB.out; omega)
          have hc0 : c ≠ 0 := by intro e; have := HBa.out; rw [e, blen_zero] at hbc; omega
          have HBc := Lib.hid hbc
          have HI3 := Lib.hid hi3
          have HCM := Lib.hid hcM
          have HC0 := Lib.hid hc0
          have hbc1 : 1 ≤ blen c := blen_pos hc0
          have hbcM : blen c ≤ 57 := blen_le.2 hcM
          obtain ⟨B, hB⟩ : ∃ B, blen c = B := ⟨_, rfl⟩
          have HWo := Lib.hid (fun w => rword_walk c (by omega) w)
          have HBt := Lib.hid (fun v w (h : DgAt w v c) => rbits_walk v c w h (tdl (by have := HCM.out; omega)))
          rw [hB] at HBt hbc1 hbcM HBc
          clear hbc hi3 hcM hc0
          have q1 : IntKind.i64.wrap ((B : Int) - 1) = (B : Int) - 1 := by rw [IntKind.wrap_i64]; omega
          have q2 : ((B : Int) - 1).tmod 4 = ((B : Int) - 1) % 4 := Int.tmod_eq_emod_of_nonneg (by omega)
          by_cases hq : (B - 1) % 4 = 0
          · have hqb : (((B : Int) - 1) % 4 != 0) = false := by rw [bne_eq_false_iff_eq]; omega
            obtain ⟨k, hk⟩ : ∃ k, B = 4 * k + 1 := ⟨(B - 1) / 4, by omega⟩
            have HG := Lib.hid (frac_all HA0.out (by omega) HA.out (by have := HBm.out; omega) HC.out HI3.out (hB.trans hk) (by omega))
            have HTD := Lib.hid (fun i hi => top_dig (c := c) (k := k) (i := i) (hB.trans hk) hi)
            have hk16 : k < 16 := by omega
            clear hB hk hq
            go_wp2_with fail
            refine (HWo.out _).mono ?_
            rintro e w7 ⟨v7, rfl, hd7, hb7⟩
            have HD7 := Lib.hid hd7
            have HW7 := Lib.hid (below_chain HW.out hb7)
            clear hd7 hb7
            go_wp2_with fail
            refine (HBt.out _ _ HD7.out).mono ?_
            rintro e w8 ⟨rfl, rfl⟩
            go_wp2_with fail
            clear HBt HWo q1 q2 hqb HI
            go_loop [12, 14] (fun M D => ∃ (r l : Nat) (ds : List UInt8), M = .int .u64 (r : Int) ∧ D = .string ⟨ds.toArray⟩ ∧ ds.length = l ∧ l ≤ k ∧ Hid (r = c / 16 ^ l) ∧ Hid (ds = gx l (c % 16 ^ l))) (fun M _ => (intOf M).toNat)
            case atStart => exact ⟨c, 0, [], rfl, rfl, rfl, by omega, Lib.hid (by simp), Lib.hid rfl⟩
            case round =>
              obtain ⟨r, l, ds, rfl, rfl, hl, hlk, HR, HX⟩ := hrel
              rcases HTD.out l hlk with ⟨e1, e2⟩ | ⟨e1, e2⟩
              · rw [← HR.out] at e2
                subst e2
                have HE := Lib.hid (show ds = DS by rw [HX.out, e1, ← HG.out, HDS.out])
                have hlD : ds.length ≤ 16 := by omega
                clear hl hlk
                have HT2 := Lib.hid (H10.out.below HW7.out)
                have hI1 := itoa_len (x + (n : Int)) (by omega) (by omega)
                by_cases hds : ds = []
                · subst hds
                  by_cases ht : x + (n : Int) < 0
                  all_goals
                    go_wp2_with fail
                    refine (Tryz.strconv_Itoa _ (by omega) (by omega) _ HT2.out).mono ?_
                    rintro e w9 ⟨rfl, k9, os, rfl⟩
                    have HW9 := Lib.hid (below_grow (below_dn HW7.out k9) (by simpa using HW7.out.size) os)
                    go_wp2
                    go_ret2
                    refine ⟨?_, HW9.out⟩
                    rw [← HE.out, prN_eq]
                    first | rw [if_neg (show ¬ 0 ≤ x + (n : Int) by omega)] | rw [if_pos (show 0 ≤ x + (n : Int) by omega)]
                    first | (congr 3; done) | (congr 3; simp only [ByteArray.mk_append_mk]; congr 1; simp)
                · obtain ⟨c0, ds0, rfl⟩ := List.exists_cons_of_ne_nil hds
                  have hl2 : ds0.length + 1 ≤ 16 := by simpa using hlD
                  have hds2 : ((⟨(c0 :: ds0).toArray⟩ : ByteArray) != ⟨#[]⟩) = true := by
                    rfl
                  by_cases ht : x + (n : Int) < 0
                  all_goals
                    go_wp2_with fail
                    refine (Tryz.strconv_Itoa _ (by omega) (by omega) _ HT2.out).mono ?_
                    rintro e w9 ⟨rfl, k9, os, rfl⟩
                    have HW9 := Lib.hid (below_grow (below_dn HW7.out k9) (by simpa using HW7.out.size) os)
                    go_wp2
                    go_ret2
                    refine ⟨?_, HW9.out⟩
                    rw [← HE.out, prN_eq]
                    first | rw [if_neg (show ¬ 0 ≤ x + (n : Int) by omega)] | rw [if_pos (show 0 ≤ x + (n : Int) by omega)]
                    first | (congr 3; done) | (congr 3; simp only [ByteArray.mk_append_mk]; congr 1; simp)
              · rw [← HR.out] at e2
                have HR16 := Lib.hid e2
                obtain ⟨q, hq⟩ : ∃ q, r % 16 = q := ⟨_, rfl⟩
                have hq16 : q < 16 := by omega
                have hqi : (r : Int) % 16 = (q : Int) := by omega
                have hix := fun w => run_hex q hq16 w
                have henc := enc_hex q hq16
                have hJ := bs_app [hxDig q] ds
                have hdv : IntKind.u64.wrap ((r : Int) / 16) = ((r / 16 : Nat) : Int) := by have := HR.out; have := HCM.out; have := Nat.div_le_self c (16 ^ l); rw [IntKind.wrap_u64]; omega
                have hgt : 1 < (r : Int) := by omega
                have HR2 := Lib.hid (show r / 16 = c / 16 ^ (l + 1) by rw [HR.out, Nat.div_div_eq_div_mul, Nat.pow_succ])
                have HX2 := Lib.hid (show hxDig q :: ds = gx (l + 1) (c % 16 ^ (l + 1)) by rw [gx_step, ← HX.out, ← HR.out, hq])
                have HLK := Lib.hid e1
                have HL := Lib.hid hl
                have hl3 : ds.length ≤ 16 := by omega
                clear hq hlk e1 e2 hl
                generalize hxDig q = dq at *
                go_wp2_with fail
                go_round
                case rel => exact ⟨r / 16, l + 1, dq :: ds, rfl, rfl, by simp [HL.out], HLK.out, HR2, HX2⟩
                case measure => have := HR16.out; simp [intOf]; omega
          · have hqb : (((B : Int) - 1) % 4 != 0) = true := by rw [bne_iff_ne]; omega
            have q3 : IntKind.u64.wrap ((c : Int) * 2) = ((c * 2 : Nat) : Int) := by have := HCM.out; rw [IntKind.wrap_u64]; omega
            have HC2 := Lib.hid (show c * 2 = a * 2 ^ (i + 1) by rw [Nat.pow_succ, ← Nat.mul_assoc, ← HC.out])
            have HI2 := Lib.hid (show i + 1 = 0 ∨ i + 1 + (blen a - 1) % 4 ≤ 4 ∧ (blen a - 1) % 4 ≠ 0 by have := HI.out; have := HBc.out; have := HBa.out; omega)
            clear hB hq
            go_wp2_with fail
            refine (HWo.out _).mono ?_
            rintro e w7 ⟨v7, rfl, hd7, hb7⟩
            have HD7 := Lib.hid hd7
            have HW7 := Lib.hid (below_chain HW.out hb7)
            clear hd7 hb7
            go_wp2_with fail
            refine (HBt.out _ _ HD7.out).mono ?_
            rintro e w8 ⟨rfl, rfl⟩
            go_wp2
            go_round
            case rel => exact ⟨c * 2, i + 1, rfl, HC2, HI2, HW7⟩
            case measure => have := HC0.out; have := HCM.out; simp [intOf]; omega
end Go.Proofs.YtooehlneoboenaaGreatDoor

namespace Go.Proofs.YtooehlneoboenaaGreatDoor
open Go.RowKit

set_option maxRecDepth 100000 in
theorem dprint_no (f : Int) (h1 : f ≠ 32) (h2 : f ≠ 64) (b : Nat) (w : World) : Calls Tryz.prog 11 #[.int .i64 f, .int .u64 (b : Int)] w fun e w' => e = .returned (.tuple #[.string ⟨#[]⟩, .int .i64 1]) ∧ Below w.heap.size w w' := by
  have HC := Lib.hid (rchk_no f h1 h2 b)
  clear h1 h2
  go_enter Tryz.func11, Tryz.ntmps11
  go_wp2_with fail
  refine (HC.out _).mono ?_
  rintro e w1 ⟨rfl, hb1⟩
  go_wp2
  go_ret2
  exact ⟨rfl, hb1⟩
set_option maxRecDepth 100000 in
theorem dprint_wide (b : Nat) (hb : 4294967296 ≤ b) (hb2 : b < 18446744073709551616) (w : World) : Calls Tryz.prog 11 #[.int .i64 32, .int .u64 (b : Int)] w fun e w' => e = .returned (.tuple #[.string ⟨#[]⟩, .int .i64 2]) ∧ Below w.heap.size w w' := by
  have HC := Lib.hid (rchk_wide b hb2 hb)
  clear hb hb2
  go_enter Tryz.func11, Tryz.ntmps11
  go_wp2_with fail
  refine (HC.out _).mono ?_
  rintro e w1 ⟨rfl, hb1⟩
  go_wp2
  go_ret2
  exact ⟨rfl, hb1⟩

set_option maxRecDepth 100000 in
set_option maxHeartbeats 1000000 in
theorem dprint_zero_S (b : Nat) (hb : b < 4294967296) (hz : b % 2147483648 = 0) (w : World) :
    Calls Tryz.prog 11 #[.int .i64 32, .int .u64 (b : Int)] w fun e w' => e = .returned (.tuple #[.string ⟨(prR (decide (2147483648 ≤ b)) 0).toArray⟩, .int .i64 0]) ∧ Below w.heap.size w w' := by
  obtain ⟨neg, hneg⟩ : ∃ neg, decide (2147483648 ≤ b) = neg := ⟨_, rfl⟩
  have C1 := Lib.hid (rchk_S b hb)
  obtain ⟨sg, I, Q, hC2, hC3, h1, h2, h3⟩ : ∃ sg I Q : Int, (∀ w, Calls Tryz.prog 20 #[.int .i64 32] w fun e w' => e = .returned (.tuple #[.agg #[.int .u64 sg, .int .i64 24, .int .i64 (-149), .int .i64 104, .int .u64 I, .int .u64 Q], .bool true]) ∧ Below w.heap.size w w') ∧
      (∀ w, Calls Tryz.prog 25 #[.agg #[.int .u64 sg, .int .i64 24, .int .i64 (-149), .int .i64 104, .int .u64 I, .int .u64 Q], .int .u64 (b : Int)] w fun e w' => e = .returned (.tuple #[.bool (decide (2147483648 ≤ b)), .int .u64 ((b % 2147483648 : Nat) : Int)]) ∧ Below w.heap.size w w') ∧
      (((b % 2147483648 : Nat) : Int) ≤ I) ∧ ((((b % 2147483648 : Nat) : Int) == I) = false) ∧ ((((b % 2147483648 : Nat) : Int) == 0) = true) :=
    ⟨2147483648, 2139095040, 2143289345, rof07_S, rcut_S b (by omega), by omega, by rw [beq_eq_false_iff_ne]; omega, by rw [beq_iff_eq]; omega⟩
  rw [hneg] at hC3
  rw [hneg]
  clear hz
  obtain ⟨z, hz⟩ : ∃ z, b % 2147483648 = z := ⟨_, rfl⟩
  simp only [hz] at *
  have C2 := Lib.hid hC2
  have C3 := Lib.hid hC3
  clear hneg hb hC2 hC3 hz
  go_enter Tryz.func11, Tryz.ntmps11
  go_wp2_with fail
  refine (C1.out _).mono ?_
  rintro e w1 ⟨rfl, hb1⟩
  go_wp2_with fail
  refine (C2.out _).mono ?_
  rintro e w2 ⟨rfl, hb2⟩
  have hb2a := below_chain hb1 hb2
  have HW2 := Lib.hid (below_chain hb2a (below_alloc' w2 (.cells #[.int .u64 sg, .int .i64 24, .int .i64 (-149), .int .i64 104, .int .u64 I, .int .u64 Q] 58)))
  clear hb1 hb2 hb2a
  go_wp2_with fail
  refine (C3.out _).mono ?_
  rintro e w3 ⟨rfl, hb3⟩
  have y0 : w3.cell? ⟨w2.heap.size, 0, none⟩ = some (.int .u64 sg) := cell_kept hb3 (by simp)
  have y1 : w3.cell? ⟨w2.heap.size, 1, none⟩ = some (.int .i64 24) := cell_kept hb3 (by simp)
  have y2 : w3.cell? ⟨w2.heap.size, 2, none⟩ = some (.int .i64 (-149)) := cell_kept hb3 (by simp)
  have y3 : w3.cell? ⟨w2.heap.size, 3, none⟩ = some (.int .i64 104) := cell_kept hb3 (by simp)
  have y4 : w3.cell? ⟨w2.heap.size, 4, none⟩ = some (.int .u64 I) := cell_kept hb3 (by simp)
  have y5 : w3.cell? ⟨w2.heap.size, 5, none⟩ = some (.int .u64 Q) := cell_kept hb3 (by simp)
  have HW3 := Lib.hid (below_chain HW2.out hb3)
  clear hb3
  cases neg
  all_goals
    go_wp2
    go_ret2
    exact ⟨rfl, HW3.out⟩

set_option maxRecDepth 100000 in
set_option maxHeartbeats 1000000 in
theorem dprint_inf_S (b : Nat) (hb : b < 4294967296) (hz : b % 2147483648 = 2139095040) (w : World) :
    Calls Tryz.prog 11 #[.int .i64 32, .int .u64 (b : Int)] w fun e w' => e = .returned (.tuple #[.string ⟨(prR (decide (2147483648 ≤ b)) 3).toArray⟩, .int .i64 0]) ∧ Below w.heap.size w w' := by
  obtain ⟨neg, hneg⟩ : ∃ neg, decide (2147483648 ≤ b) = neg := ⟨_, rfl⟩
  have C1 := Lib.hid (rchk_S b hb)
  obtain ⟨sg, I, Q, hC2, hC3, h1, h2⟩ : ∃ sg I Q : Int, (∀ w, Calls Tryz.prog 20 #[.int .i64 32] w fun e w' => e = .returned (.tuple #[.agg #[.int .u64 sg, .int .i64 24, .int .i64 (-149), .int .i64 104, .int .u64 I, .int .u64 Q], .bool true]) ∧ Below w.heap.size w w') ∧
      (∀ w, Calls Tryz.prog 25 #[.agg #[.int .u64 sg, .int .i64 24, .int .i64 (-149), .int .i64 104, .int .u64 I, .int .u64 Q], .int .u64 (b : Int)] w fun e w' => e = .returned (.tuple #[.bool (decide (2147483648 ≤ b)), .int .u64 ((b % 2147483648 : Nat) : Int)]) ∧ Below w.heap.size w w') ∧
      (((b % 2147483648 : Nat) : Int) ≤ I) ∧ ((((b % 2147483648 : Nat) : Int) == I) = true) :=
    ⟨2147483648, 2139095040, 2143289345, rof07_S, rcut_S b (by omega), by omega, by rw [beq_iff_eq]; omega⟩
  rw [hneg] at hC3
  rw [hneg]
  clear hz
  obtain ⟨z, hz⟩ : ∃ z, b % 2147483648 = z := ⟨_, rfl⟩
  simp only [hz] at *
  have C2 := Lib.hid hC2
  have C3 := Lib.hid hC3
  clear hneg hb hC2 hC3 hz
  go_enter Tryz.func11, Tryz.ntmps11
  go_wp2_with fail
  refine (C1.out _).mono ?_
  rintro e w1 ⟨rfl, hb1⟩
  go_wp2_with fail
  refine (C2.out _).mono ?_
  rintro e w2 ⟨rfl, hb2⟩
  have hb2a := below_chain hb1 hb2
  have HW2 := Lib.hid (below_chain hb2a (below_alloc' w2 (.cells #[.int .u64 sg, .int .i64 24, .int .i64 (-149), .int .i64 104, .int .u64 I, .int .u64 Q] 58)))
  clear hb1 hb2 hb2a
  go_wp2_with fail
  refine (C3.out _).mono ?_
  rintro e w3 ⟨rfl, hb3⟩
  have y0 : w3.cell? ⟨w2.heap.size, 0, none⟩ = some (.int .u64 sg) := cell_kept hb3 (by simp)
  have y1 : w3.cell? ⟨w2.heap.size, 1, none⟩ = some (.int .i64 24) := cell_kept hb3 (by simp)
  have y2 : w3.cell? ⟨w2.heap.size, 2, none⟩ = some (.int .i64 (-149)) := cell_kept hb3 (by simp)
  have y3 : w3.cell? ⟨w2.heap.size, 3, none⟩ = some (.int .i64 104) := cell_kept hb3 (by simp)
  have y4 : w3.cell? ⟨w2.heap.size, 4, none⟩ = some (.int .u64 I) := cell_kept hb3 (by simp)
  have y5 : w3.cell? ⟨w2.heap.size, 5, none⟩ = some (.int .u64 Q) := cell_kept hb3 (by simp)
  have HW3 := Lib.hid (below_chain HW2.out hb3)
  clear hb3
  cases neg
  all_goals
    go_wp2
    go_ret2
    exact ⟨rfl, HW3.out⟩

set_option maxRecDepth 100000 in
set_option maxHeartbeats 1000000 in
theorem dprint_nan_S (b : Nat) (hb : b < 4294967296) (hz : 2139095040 < b % 2147483648) (w : World) :
    Calls Tryz.prog 11 #[.int .i64 32, .int .u64 (b : Int)] w fun e w' => e = .returned (.tuple #[.string ⟨(prR (decide (2147483648 ≤ b)) 4).toArray⟩, .int .i64 0]) ∧ Below w.heap.size w w' := by
  obtain ⟨neg, hneg⟩ : ∃ neg, decide (2147483648 ≤ b) = neg := ⟨_, rfl⟩
  have C1 := Lib.hid (rchk_S b hb)
  obtain ⟨sg, I, Q, hC2, hC3, h1⟩ : ∃ sg I Q : Int, (∀ w, Calls Tryz.prog 20 #[.int .i64 32] w fun e w' => e = .returned (.tuple #[.agg #[.int .u64 sg, .int .i64 24, .int .i64 (-149), .int .i64 104, .int .u64 I, .int .u64 Q], .bool true]) ∧ Below w.heap.size w w') ∧
      (∀ w, Calls Tryz.prog 25 #[.agg #[.int .u64 sg, .int .i64 24, .int .i64 (-149), .int .i64 104, .int .u64 I, .int .u64 Q], .int .u64 (b : Int)] w fun e w' => e = .returned (.tuple #[.bool (decide (2147483648 ≤ b)), .int .u64 ((b % 2147483648 : Nat) : Int)]) ∧ Below w.heap.size w w') ∧
      (I < ((b % 2147483648 : Nat) : Int)) :=
    ⟨2147483648, 2139095040, 2143289345, rof07_S, rcut_S b (by omega), by omega⟩
  rw [hneg] at hC3
  rw [hneg]
  clear hz
  obtain ⟨z, hz⟩ : ∃ z, b % 2147483648 = z := ⟨_, rfl⟩
  simp only [hz] at *
  have C2 := Lib.hid hC2
  have C3 := Lib.hid hC3
  clear hneg hb hC2 hC3 hz
  go_enter Tryz.func11, Tryz.ntmps11
  go_wp2_with fail
  refine (C1.out _).mono ?_
  rintro e w1 ⟨rfl, hb1⟩
  go_wp2_with fail
  refine (C2.out _).mono ?_
  rintro e w2 ⟨rfl, hb2⟩
  have hb2a := below_chain hb1 hb2
  have HW2 := Lib.hid (below_chain hb2a (below_alloc' w2 (.cells #[.int .u64 sg, .int .i64 24, .int .i64 (-149), .int .i64 104, .int .u64 I, .int .u64 Q] 58)))
  clear hb1 hb2 hb2a
  go_wp2_with fail
  refine (C3.out _).mono ?_
  rintro e w3 ⟨rfl, hb3⟩
  have y0 : w3.cell? ⟨w2.heap.size, 0, none⟩ = some (.int .u64 sg) := cell_kept hb3 (by simp)
  have y1 : w3.cell? ⟨w2.heap.size, 1, none⟩ = some (.int .i64 24) := cell_kept hb3 (by simp)
  have y2 : w3.cell? ⟨w2.heap.size, 2, none⟩ = some (.int .i64 (-149)) := cell_kept hb3 (by simp)
  have y3 : w3.cell? ⟨w2.heap.size, 3, none⟩ = some (.int .i64 104) := cell_kept hb3 (by simp)
  have y4 : w3.cell? ⟨w2.heap.size, 4, none⟩ = some (.int .u64 I) := cell_kept hb3 (by simp)
  have y5 : w3.cell? ⟨w2.heap.size, 5, none⟩ = some (.int .u64 Q) := cell_kept hb3 (by simp)
  have HW3 := Lib.hid (below_chain HW2.out hb3)
  clear hb3
  cases neg
  all_goals
    go_wp2
    go_ret2
    exact ⟨rfl, HW3.out⟩

set_option maxRecDepth 100000 in
set_option maxHeartbeats 1000000 in
theorem dprint_zero_D (b : Nat) (hb : b < 18446744073709551616) (hz : b % 9223372036854775808 = 0) (w : World) :
    Calls Tryz.prog 11 #[.int .i64 64, .int .u64 (b : Int)] w fun e w' => e = .returned (.tuple #[.string ⟨(prR (decide (9223372036854775808 ≤ b)) 0).toArray⟩, .int .i64 0]) ∧ Below w.heap.size w w' := by
  obtain ⟨neg, hneg⟩ : ∃ neg, decide (9223372036854775808 ≤ b) = neg := ⟨_, rfl⟩
  have C1 := Lib.hid (rchk_D b hb)
  obtain ⟨sg, I, Q, hC2, hC3, h1, h2, h3⟩ : ∃ sg I Q : Int, (∀ w, Calls Tryz.prog 20 #[.int .i64 64] w fun e w' => e = .returned (.tuple #[.agg #[.int .u64 sg, .int .i64 53, .int .i64 (-1074), .int .i64 971, .int .u64 I, .int .u64 Q], .bool true]) ∧ Below w.heap.size w w') ∧
      (∀ w, Calls Tryz.prog 25 #[.agg #[.int .u64 sg, .int .i64 53, .int .i64 (-1074), .int .i64 971, .int .u64 I, .int .u64 Q], .int .u64 (b : Int)] w fun e w' => e = .returned (.tuple #[.bool (decide (9223372036854775808 ≤ b)), .int .u64 ((b % 9223372036854775808 : Nat) : Int)]) ∧ Below w.heap.size w w') ∧
      (((b % 9223372036854775808 : Nat) : Int) ≤ I) ∧ ((((b % 9223372036854775808 : Nat) : Int) == I) = false) ∧ ((((b % 9223372036854775808 : Nat) : Int) == 0) = true) :=
    ⟨9223372036854775808, 9218868437227405312, 9221120237041090561, rof07_D, rcut_D b (by omega), by omega, by rw [beq_eq_false_iff_ne]; omega, by rw [beq_iff_eq]; omega⟩
  rw [hneg] at hC3
  rw [hneg]
  clear hz
  obtain ⟨z, hz⟩ : ∃ z, b % 9223372036854775808 = z := ⟨_, rfl⟩
  simp only [hz] at *
  have C2 := Lib.hid hC2
  have C3 := Lib.hid hC3
  clear hneg hb hC2 hC3 hz
  go_enter Tryz.func11, Tryz.ntmps11
  go_wp2_with fail
  refine (C1.out _).mono ?_
  rintro e w1 ⟨rfl, hb1⟩
  go_wp2_with fail
  refine (C2.out _).mono ?_
  rintro e w2 ⟨rfl, hb2⟩
  have hb2a := below_chain hb1 hb2
  have HW2 := Lib.hid (below_chain hb2a (below_alloc' w2 (.cells #[.int .u64 sg, .int .i64 53, .int .i64 (-1074), .int .i64 971, .int .u64 I, .int .u64 Q] 58)))
  clear hb1 hb2 hb2a
  go_wp2_with fail
  refine (C3.out _).mono ?_
  rintro e w3 ⟨rfl, hb3⟩
  have y0 : w3.cell? ⟨w2.heap.size, 0, none⟩ = some (.int .u64 sg) := cell_kept hb3 (by simp)
  have y1 : w3.cell? ⟨w2.heap.size, 1, none⟩ = some (.int .i64 53) := cell_kept hb3 (by simp)
  have y2 : w3.cell? ⟨w2.heap.size, 2, none⟩ = some (.int .i64 (-1074)) := cell_kept hb3 (by simp)
  have y3 : w3.cell? ⟨w2.heap.size, 3, none⟩ = some (.int .i64 971) := cell_kept hb3 (by simp)
  have y4 : w3.cell? ⟨w2.heap.size, 4, none⟩ = some (.int .u64 I) := cell_kept hb3 (by simp)
  have y5 : w3.cell? ⟨w2.heap.size, 5, none⟩ = some (.int .u64 Q) := cell_kept hb3 (by simp)
  have HW3 := Lib.hid (below_chain HW2.out hb3)
  clear hb3
  cases neg
  all_goals
    go_wp2
    go_ret2
    exact ⟨rfl, HW3.out⟩

set_option maxRecDepth 100000 in
set_option maxHeartbeats 1000000 in
theorem dprint_inf_D (b : Nat) (hb : b < 18446744073709551616) (hz : b % 9223372036854775808 = 9218868437227405312) (w : World) :
    Calls Tryz.prog 11 #[.int .i64 64, .int .u64 (b : Int)] w fun e w' => e = .returned (.tuple #[.string ⟨(prR (decide (9223372036854775808 ≤ b)) 3).toArray⟩, .int .i64 0]) ∧ Below w.heap.size w w' := by
  obtain ⟨neg, hneg⟩ : ∃ neg, decide (9223372036854775808 ≤ b) = neg := ⟨_, rfl⟩
  have C1 := Lib.hid (rchk_D b hb)
  obtain ⟨sg, I, Q, hC2, hC3, h1, h2⟩ : ∃ sg I Q : Int, (∀ w, Calls Tryz.prog 20 #[.int .i64 64] w fun e w' => e = .returned (.tuple #[.agg #[.int .u64 sg, .int .i64 53, .int .i64 (-1074), .int .i64 971, .int .u64 I, .int .u64 Q], .bool true]) ∧ Below w.heap.size w w') ∧
      (∀ w, Calls Tryz.prog 25 #[.agg #[.int .u64 sg, .int .i64 53, .int .i64 (-1074), .int .i64 971, .int .u64 I, .int .u64 Q], .int .u64 (b : Int)] w fun e w' => e = .returned (.tuple #[.bool (decide (9223372036854775808 ≤ b)), .int .u64 ((b % 9223372036854775808 : Nat) : Int)]) ∧ Below w.heap.size w w') ∧
      (((b % 9223372036854775808 : Nat) : Int) ≤ I) ∧ ((((b % 9223372036854775808 : Nat) : Int) == I) = true) :=
    ⟨9223372036854775808, 9218868437227405312, 9221120237041090561, rof07_D, rcut_D b (by omega), by omega, by rw [beq_iff_eq]; omega⟩
  rw [hneg] at hC3
  rw [hneg]
  clear hz
  obtain ⟨z, hz⟩ : ∃ z, b % 9223372036854775808 = z := ⟨_, rfl⟩
  simp only [hz] at *
  have C2 := Lib.hid hC2
  have C3 := Lib.hid hC3
  clear hneg hb hC2 hC3 hz
  go_enter Tryz.func11, Tryz.ntmps11
  go_wp2_with fail
  refine (C1.out _).mono ?_
  rintro e w1 ⟨rfl, hb1⟩
  go_wp2_with fail
  refine (C2.out _).mono ?_
  rintro e w2 ⟨rfl, hb2⟩
  have hb2a := below_chain hb1 hb2
  have HW2 := Lib.hid (below_chain hb2a (below_alloc' w2 (.cells #[.int .u64 sg, .int .i64 53, .int .i64 (-1074), .int .i64 971, .int .u64 I, .int .u64 Q] 58)))
  clear hb1 hb2 hb2a
  go_wp2_with fail
  refine (C3.out _).mono ?_
  rintro e w3 ⟨rfl, hb3⟩
  have y0 : w3.cell? ⟨w2.heap.size, 0, none⟩ = some (.int .u64 sg) := cell_kept hb3 (by simp)
  have y1 : w3.cell? ⟨w2.heap.size, 1, none⟩ = some (.int .i64 53) := cell_kept hb3 (by simp)
  have y2 : w3.cell? ⟨w2.heap.size, 2, none⟩ = some (.int .i64 (-1074)) := cell_kept hb3 (by simp)
  have y3 : w3.cell? ⟨w2.heap.size, 3, none⟩ = some (.int .i64 971) := cell_kept hb3 (by simp)
  have y4 : w3.cell? ⟨w2.heap.size, 4, none⟩ = some (.int .u64 I) := cell_kept hb3 (by simp)
  have y5 : w3.cell? ⟨w2.heap.size, 5, none⟩ = some (.int .u64 Q) := cell_kept hb3 (by simp)
  have HW3 := Lib.hid (below_chain HW2.out hb3)
  clear hb3
  cases neg
  all_goals
    go_wp2
    go_ret2
    exact ⟨rfl, HW3.out⟩

set_option maxRecDepth 100000 in
set_option maxHeartbeats 1000000 in
theorem dprint_nan_D (b : Nat) (hb : b < 18446744073709551616) (hz : 9218868437227405312 < b % 9223372036854775808) (w : World) :
    Calls Tryz.prog 11 #[.int .i64 64, .int .u64 (b : Int)] w fun e w' => e = .returned (.tuple #[.string ⟨(prR (decide (9223372036854775808 ≤ b)) 4).toArray⟩, .int .i64 0]) ∧ Below w.heap.size w w' := by
  obtain ⟨neg, hneg⟩ : ∃ neg, decide (9223372036854775808 ≤ b) = neg := ⟨_, rfl⟩
  have C1 := Lib.hid (rchk_D b hb)
  obtain ⟨sg, I, Q, hC2, hC3, h1⟩ : ∃ sg I Q : Int, (∀ w, Calls Tryz.prog 20 #[.int .i64 64] w fun e w' => e = .returned (.tuple #[.agg #[.int .u64 sg, .int .i64 53, .int .i64 (-1074), .int .i64 971, .int .u64 I, .int .u64 Q], .bool true]) ∧ Below w.heap.size w w') ∧
      (∀ w, Calls Tryz.prog 25 #[.agg #[.int .u64 sg, .int .i64 53, .int .i64 (-1074), .int .i64 971, .int .u64 I, .int .u64 Q], .int .u64 (b : Int)] w fun e w' => e = .returned (.tuple #[.bool (decide (9223372036854775808 ≤ b)), .int .u64 ((b % 9223372036854775808 : Nat) : Int)]) ∧ Below w.heap.size w w') ∧
      (I < ((b % 9223372036854775808 : Nat) : Int)) :=
    ⟨9223372036854775808, 9218868437227405312, 9221120237041090561, rof07_D, rcut_D b (by omega), by omega⟩
  rw [hneg] at hC3
  rw [hneg]
  clear hz
  obtain ⟨z, hz⟩ : ∃ z, b % 9223372036854775808 = z := ⟨_, rfl⟩
  simp only [hz] at *
  have C2 := Lib.hid hC2
  have C3 := Lib.hid hC3
  clear hneg hb hC2 hC3 hz
  go_enter Tryz.func11, Tryz.ntmps11
  go_wp2_with fail
  refine (C1.out _).mono ?_
  rintro e w1 ⟨rfl, hb1⟩
  go_wp2_with fail
  refine (C2.out _).mono ?_
  rintro e w2 ⟨rfl, hb2⟩
  have hb2a := below_chain hb1 hb2
  have HW2 := Lib.hid (below_chain hb2a (below_alloc' w2 (.cells #[.int .u64 sg, .int .i64 53, .int .i64 (-1074), .int .i64 971, .int .u64 I, .int .u64 Q] 58)))
  clear hb1 hb2 hb2a
  go_wp2_with fail
  refine (C3.out _).mono ?_
  rintro e w3 ⟨rfl, hb3⟩
  have y0 : w3.cell? ⟨w2.heap.size, 0, none⟩ = some (.int .u64 sg) := cell_kept hb3 (by simp)
  have y1 : w3.cell? ⟨w2.heap.size, 1, none⟩ = some (.int .i64 53) := cell_kept hb3 (by simp)
  have y2 : w3.cell? ⟨w2.heap.size, 2, none⟩ = some (.int .i64 (-1074)) := cell_kept hb3 (by simp)
  have y3 : w3.cell? ⟨w2.heap.size, 3, none⟩ = some (.int .i64 971) := cell_kept hb3 (by simp)
  have y4 : w3.cell? ⟨w2.heap.size, 4, none⟩ = some (.int .u64 I) := cell_kept hb3 (by simp)
  have y5 : w3.cell? ⟨w2.heap.size, 5, none⟩ = some (.int .u64 Q) := cell_kept hb3 (by simp)
  have HW3 := Lib.hid (below_chain HW2.out hb3)
  clear hb3
  cases neg
  all_goals
    go_wp2
    go_ret2
    exact ⟨rfl, HW3.out⟩
end Go.Proofs.YtooehlneoboenaaGreatDoor

namespace Go.Proofs.YtooehlneoboenaaGreatDoor
open Go.RowKit

/-- What both Prints answer. -/
def BothP (f : Int) (b : Nat) (s : ByteArray) (n : Int) : Prop :=
  (∀ w, Tab64 w → Tab10 w → Calls Tryz.prog 9 #[.int .i64 f, .int .u64 (b : Int)] w fun e w' => e = .returned (.tuple #[.string s, .int .i64 n]) ∧ Below w.heap.size w w') ∧
  (∀ w, Tab10 w → Calls Tryz.prog 11 #[.int .i64 f, .int .u64 (b : Int)] w fun e w' => e = .returned (.tuple #[.string s, .int .i64 n]) ∧ Below w.heap.size w w')

theorem both_S (b : Nat) (hb : b < 4294967296) : ∃ s n, BothP 32 b s n := by
  by_cases h0 : b % 2147483648 = 0
  · have hc : clsN 8388608 2139095040 (b % 2147483648) = 0 := by unfold clsN; rw [if_pos h0]
    refine ⟨_, _, fun w _ _ => ?_, fun w _ => dprint_zero_S b hb h0 w⟩
    have := print_rest_S b hb (.inl hc) w
    rwa [hc] at this
  by_cases h1 : b % 2147483648 < 2139095040
  · exact ⟨_, _, fun w ht h10 => print_num_S b hb h0 h1 w ht h10, fun w h10 => dprint_num_S b hb h0 h1 w h10⟩
  by_cases h2 : b % 2147483648 = 2139095040
  · have hc : clsN 8388608 2139095040 (b % 2147483648) = 3 := by
      unfold clsN; rw [if_neg h0, if_neg (by omega), if_neg (by omega), if_pos h2]
    refine ⟨_, _, fun w _ _ => ?_, fun w _ => dprint_inf_S b hb h2 w⟩
    have := print_rest_S b hb (.inr (.inl hc)) w
    rwa [hc] at this
  · have hc : clsN 8388608 2139095040 (b % 2147483648) = 4 := by
      unfold clsN; rw [if_neg h0, if_neg (by omega), if_neg (by omega), if_neg h2]
    refine ⟨_, _, fun w _ _ => ?_, fun w _ => dprint_nan_S b hb (by omega) w⟩
    have := print_rest_S b hb (.inr (.inr hc)) w
    rwa [hc] at this

theorem both_D (b : Nat) (hb : b < 18446744073709551616) : ∃ s n, BothP 64 b s n := by
  by_cases h0 : b % 9223372036854775808 = 0
  · have hc : clsN 4503599627370496 9218868437227405312 (b % 9223372036854775808) = 0 := by unfold clsN; rw [if_pos h0]
    refine ⟨_, _, fun w _ _ => ?_, fun w _ => dprint_zero_D b hb h0 w⟩
    have := print_rest_D b hb (.inl hc) w
    rwa [hc] at this
  by_cases h1 : b % 9223372036854775808 < 9218868437227405312
  · exact ⟨_, _, fun w ht h10 => print_num_D b hb h0 h1 w ht h10, fun w h10 => dprint_num_D b hb h0 h1 w h10⟩
  by_cases h2 : b % 9223372036854775808 = 9218868437227405312
  · have hc : clsN 4503599627370496 9218868437227405312 (b % 9223372036854775808) = 3 := by
      unfold clsN; rw [if_neg h0, if_neg (by omega), if_neg (by omega), if_pos h2]
    refine ⟨_, _, fun w _ _ => ?_, fun w _ => dprint_inf_D b hb h2 w⟩
    have := print_rest_D b hb (.inr (.inl hc)) w
    rwa [hc] at this
  · have hc : clsN 4503599627370496 9218868437227405312 (b % 9223372036854775808) = 4 := by
      unfold clsN; rw [if_neg h0, if_neg (by omega), if_neg (by omega), if_neg h2]
    refine ⟨_, _, fun w _ _ => ?_, fun w _ => dprint_nan_D b hb (by omega) w⟩
    have := print_rest_D b hb (.inr (.inr hc)) w
    rwa [hc] at this

theorem both_print (f : Int) (b : Nat) (hb : b < 18446744073709551616) : ∃ s n, BothP f b s n := by
  by_cases h1 : f = 32
  · subst h1
    by_cases hw : b < 4294967296
    · exact both_S b hw
    · exact ⟨_, _, fun w _ _ => print_wide b (by omega) hb w, fun w _ => dprint_wide b (by omega) hb w⟩
  by_cases h2 : f = 64
  · subst h2
    exact both_D b hb
  · exact ⟨_, _, fun w _ _ => print_no f h1 h2 b w, fun w _ => dprint_no f h1 h2 b w⟩

set_option maxRecDepth 100000 in
set_option maxHeartbeats 1000000 in
theorem plays_two (f : Int) (s : ByteArray) (b : Nat) (hb : b < 18446744073709551616) (w : World) (ht : Tab64 w) (h10 : Tab10 w) :
    Calls Tryz.prog 7 #[.agg #[.int .i64 2, .int .i64 f, .string s, .int .u64 (b : Int)]] w fun e w' => e = .returned (.bool true) ∧ Below w.heap.size w w' := by
  obtain ⟨t, n, hP, hR⟩ := both_print f b hb
  have HP := Lib.hid hP
  have HR := Lib.hid hR
  have HT := Lib.hid ht
  have H10 := Lib.hid h10
  have hb0 := below_alloc' w (.cells #[.int .i64 2, .int .i64 f, .string s, .int .u64 (b : Int)] 27)
  have HW0 := Lib.hid hb0
  clear hP hR ht h10 hb hb0
  go_enter Tryz.func7, Tryz.ntmps7
  go_wp2_with fail
  refine (HP.out _ (HT.out.below HW0.out) (H10.out.below HW0.out)).mono ?_
  rintro e w1 ⟨rfl, hb1⟩
  have HW1 := Lib.hid (below_chain HW0.out hb1)
  have y0 : w1.cell? ⟨w.heap.size, 0, none⟩ = some (.int .i64 2) := cell_kept hb1 (by simp)
  have y1 : w1.cell? ⟨w.heap.size, 1, none⟩ = some (.int .i64 f) := cell_kept hb1 (by simp)
  have y2 : w1.cell? ⟨w.heap.size, 2, none⟩ = some (.string s) := cell_kept hb1 (by simp)
  have y3 : w1.cell? ⟨w.heap.size, 3, none⟩ = some (.int .u64 (b : Int)) := cell_kept hb1 (by simp)
  clear hb1
  go_wp2_with fail
  refine (HR.out _ (H10.out.below HW1.out)).mono ?_
  rintro e w2 ⟨rfl, hb2⟩
  have HW2 := Lib.hid (below_chain HW1.out hb2)
  clear hb2 y0 y1 y2 y3
  go_wp2
  go_ret
  exact ⟨rfl, HW2.out⟩

set_option maxRecDepth 100000 in
theorem prints_walk (f : Int) (b : Nat) (hb : b < 18446744073709551616) (w : World) (ht : Tab64 w) (h10 : Tab10 w) :
    Calls Tryz.prog 4 #[.int .i64 f, .int .u64 (b : Int)] w fun e w' => e = .returned (.bool true) ∧ Below w.heap.size w w' := by
  have HP := Lib.hid (fun w ht h10 => plays_two f ⟨#[]⟩ b hb w ht h10)
  have HT := Lib.hid ht
  have H10 := Lib.hid h10
  clear ht h10 hb
  go_enter Tryz.func4, Tryz.ntmps4
  go_wp2_with fail
  refine (awake_walk w HT.out H10.out).mono ?_
  rintro e w1 ⟨rfl, hb1⟩
  have HW1 := Lib.hid hb1
  clear hb1
  go_wp2_with fail
  refine (HP.out _ (HT.out.below HW1.out) (H10.out.below HW1.out)).mono ?_
  rintro e w2 ⟨rfl, hb2⟩
  go_wp2
  go_ret
  exact ⟨rfl, below_chain HW1.out hb2⟩
end Go.Proofs.YtooehlneoboenaaGreatDoor
