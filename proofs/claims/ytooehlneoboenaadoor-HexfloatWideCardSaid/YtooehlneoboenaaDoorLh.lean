/- What Print answers at any pattern, and how that is read; the walk of the law Back (printed by gen_back.py). -/
import Derived.Test.YtooehlneoboenaaDoorLg
import Derived.Test.YtooehlneoboenaaDoorLf
import Derived.Test.YtooehlneoboenaaDoorTc
import Derived.Test.YtooehlneoboenaaDoorBd
namespace Go.Proofs.YtooehlneoboenaaDoor
open Go.RowKit Go.Sort

theorem digs_len (k r : Nat) : (digs k r).length ≤ k := by
  induction k generalizing r with
  | zero => simp [digs]
  | succ k ih => unfold digs; split; simp; rw [List.length_cons]; have := ih (r * 16 % 2 ^ 64); omega
theorem prN_len (neg : Bool) (r : Nat) (t : Int) (h1 : -10000 ≤ t) (h2 : t ≤ 10000) : (prN neg (digs 16 r) t).length ≤ 100 := by
  have a1 := digs_len 16 r
  have a2 := itoa_len (if t < 0 then -t else t) (by split <;> omega) (by split <;> omega)
  unfold prN
  simp only [List.length_append, List.length_cons, List.length_nil]
  have a3 : (if neg then [45] else [] : List UInt8).length ≤ 1 := by split <;> simp
  have a4 : (if digs 16 r = [] then [] else 46 :: digs 16 r : List UInt8).length ≤ 17 := by split; simp; rw [List.length_cons]; omega
  omega
theorem rest_read (g : Fm) (hg : g.ok) (neg : Bool) : parseOf g (bs (prR neg 0)) = some (sgn g neg 0) ∧ parseOf g (bs (prR neg 3)) = some (sgn g neg g.inf) ∧ parseOf g (bs (prR neg 4)) = some g.quiet := by
  rcases hg with rfl | rfl <;> cases neg <;> decide +kernel
theorem hx_nought (g : Fm) (x : Int) : hxPat g 0 x = 0 := by unfold hxPat; rw [if_pos (.inl rfl)]

theorem print_any_S (b : Nat) (hb : b < 4294967296) : ∃ T : List UInt8, T.length ≤ 100 ∧
    (∀ W, Tab64 W → Tab10 W → Calls Tryd.prog 12 #[.int .i64 32, .int .u64 (b : Int)] W fun e w' => e = .returned (.tuple #[.string (bs T), .int .i64 0]) ∧ Below W.heap.size W w') ∧
    ((clsN 8388608 2139095040 (b % 2147483648) = 4 ∧ T = [110, 97, 110]) ∨ (clsN 8388608 2139095040 (b % 2147483648) ≠ 4 ∧ b % 2147483648 ≤ 2139095040 ∧ ∀ g : Fm, g.ok → parseOf g (bs T) = some (sgn g (decide (2147483648 ≤ b)) (if b % 2147483648 = 2139095040 then g.inf else hxPat g (ptM 8388608 (b % 2147483648)) (ptE 8388608 (-149) (b % 2147483648)))))) := by
  by_cases h0 : b % 2147483648 = 0
  · have hc : clsN 8388608 2139095040 (b % 2147483648) = 0 := by unfold clsN; rw [if_pos h0]
    refine ⟨prR (decide (2147483648 ≤ b)) 0, by cases decide (2147483648 ≤ b) <;> decide, fun W h1 h2 => ?_, .inr ⟨by rw [hc]; decide, by omega, fun g hg => ?_⟩⟩
    · have := print_rest_S b hb (.inl hc) W
      rw [hc] at this
      exact this
    · rw [(rest_read g hg _).1, if_neg (by omega), h0, show ptM 8388608 0 = 0 from rfl, hx_nought]
  by_cases h3 : b % 2147483648 = 2139095040
  · have hc : clsN 8388608 2139095040 (b % 2147483648) = 3 := by rw [h3]; decide
    refine ⟨prR (decide (2147483648 ≤ b)) 3, by cases decide (2147483648 ≤ b) <;> decide, fun W h1 h2 => ?_, .inr ⟨by rw [hc]; decide, by omega, fun g hg => ?_⟩⟩
    · have := print_rest_S b hb (.inr (.inl hc)) W
      rw [hc] at this
      exact this
    · rw [(rest_read g hg _).2.1, if_pos h3]
  by_cases h4 : 2139095040 < b % 2147483648
  · have hc : clsN 8388608 2139095040 (b % 2147483648) = 4 := by
      unfold clsN
      rw [if_neg h0, if_neg (by omega), if_neg (by omega), if_neg h3]
    refine ⟨[110, 97, 110], by decide, fun W h1 h2 => ?_, .inl ⟨hc, rfl⟩⟩
    have := print_rest_S b hb (.inr (.inr hc)) W
    rw [hc] at this
    exact this
  · have hfin : b % 2147483648 < 2139095040 := by omega
    have hc : clsN 8388608 2139095040 (b % 2147483648) ≠ 4 := by
      unfold clsN
      rw [if_neg h0]
      split
      · decide
      · first | (rw [if_pos hfin]; decide) | decide
    have hm := ptM_facts fmS (by decide) (b % 2147483648)
    rw [show 2 ^ (fmS.P - 1) = 8388608 by decide, show 2 ^ fmS.P = 2 * 8388608 by decide] at hm
    have hbl : blen (ptM 8388608 (b % 2147483648)) ≤ 24 := blen_le.2 hm.1
    have he : -2000 ≤ ptE 8388608 (-149) (b % 2147483648) ∧ ptE 8388608 (-149) (b % 2147483648) ≤ 5000 := by
      have hq : b % 2147483648 / 8388608 ≤ 2047 := by omega
      unfold ptE
      generalize b % 2147483648 / 8388608 = q at *
      split <;> omega
    refine ⟨prN (decide (2147483648 ≤ b)) (digs 16 (fracOf (ptM 8388608 (b % 2147483648)))) (ptE 8388608 (-149) (b % 2147483648) + ((blen (ptM 8388608 (b % 2147483648)) - 1 : Nat) : Int)), prN_len _ _ _ (by omega) (by omega), fun W h1 h2 => print_num_S b hb h0 hfin W h1 h2, .inr ⟨hc, by omega, fun g hg => ?_⟩⟩
    rw [print_means hg _ _ _ (hm.2 h0) (by omega) (by omega) (by omega), if_neg h3]
theorem back_val_S (b : Nat) (hb : b < 4294967296) (hz : b % 2147483648 ≤ 2139095040) : (sgn fmS (decide (2147483648 ≤ b)) (if b % 2147483648 = 2139095040 then fmS.inf else hxPat fmS (ptM 8388608 (b % 2147483648)) (ptE 8388608 (-149) (b % 2147483648)))) = b := by
  have hi : fmS.inf = 2139095040 := by decide
  have e : (if b % 2147483648 = 2139095040 then fmS.inf else hxPat fmS (ptM 8388608 (b % 2147483648)) (ptE 8388608 (-149) (b % 2147483648))) = b % 2147483648 := by
    split
    · rename_i h; rw [hi, h]
    · exact parts_exact (f := fmS) (.inl rfl) (b % 2147483648) (by rw [hi]; exact hz)
  rw [e]
  unfold sgn
  have e2 : 2 ^ fmS.S = 2147483648 := by decide
  rw [e2]
  by_cases h : 2147483648 ≤ b
  · rw [if_pos (decide_eq_true h)]; omega
  · rw [if_neg (by simpa using h)]; omega

set_option maxRecDepth 100000 in
set_option maxHeartbeats 1000000 in
theorem back_main_S (b : Nat) (hb : b < 4294967296) (w : World) (ht : Tab64 w) (h10 : Tab10 w) :
    Calls Tryd.prog 3 #[.int .i64 32, .int .u64 (b : Int)] w fun e w' => e = .returned (.bool true) ∧ Below w.heap.size w w' := by
  obtain ⟨T, hTl, hP, hcase⟩ := print_any_S b hb
  have HP := Lib.hid hP
  have HT := Lib.hid ht
  have H10 := Lib.hid h10
  have HC := Lib.hid (fun w => classOf_S b hb w)
  have hbi : decide ((4294967296 : Int) ≤ (b : Int)) = false := by rw [decide_eq_false_iff_not]; omega
  obtain ⟨c, hc⟩ : ∃ c, clsN 8388608 2139095040 (b % 2147483648) = c := ⟨_, rfl⟩
  obtain ⟨V, HR, hk⟩ : ∃ V : Nat, Hid (∀ W, Tab64 W → Calls Tryd.prog 13 #[.int .i64 32, .string (bs T)] W fun e w' => e = .returned (.tuple #[.int .u64 (V : Int), .int .i64 0]) ∧ Below W.heap.size W w') ∧ ((c = 4 ∧ T = [110, 97, 110] ∧ V = 2143289345) ∨ (c ≠ 4 ∧ V = b)) := by
    rcases hcase with ⟨hc4, rfl⟩ | ⟨hc4, hz, hr⟩
    · exact ⟨2143289345, Lib.hid fun W hW => parse_bs 32 (.inl rfl) _ 2143289345 (by decide) (rest_read fmS (.inl rfl) false).2.2 W hW, .inl ⟨by rw [← hc]; exact hc4, rfl, rfl⟩⟩
    · have := hr fmS (.inl rfl)
      rw [back_val_S b hb hz] at this
      exact ⟨b, Lib.hid fun W hW => parse_bs 32 (.inl rfl) _ b (by omega) this W hW, .inr ⟨by rw [← hc]; exact hc4, rfl⟩⟩
  rw [hc] at HC
  clear hcase hP ht h10 hb hc hTl
  rcases hk with ⟨rfl, rfl, hV⟩ | ⟨hk, rfl⟩
  · have hn : ((bs [110, 97, 110]).toList == [110, 97, 110]) = true := by rw [bs_list]; rfl
    have hV2 : ((V : Int) == 2143289345) = true := by rw [beq_iff_eq]; omega
    clear hV
    generalize bs [110, 97, 110] = TS at *
    go_enter Tryd.func3, Tryd.ntmps3
    go_wp2_with fail
    refine (awake_walk w HT.out H10.out).mono ?_
    rintro e w1 ⟨rfl, hb1⟩
    have HW1 := Lib.hid hb1
    clear hb1
    go_wp2_with fail
    refine (formats_yes 32 (.inl rfl) _).mono ?_
    rintro e w2 ⟨rfl, rfl⟩
    skip
    go_wp2_with fail
    refine (HP.out _ (HT.out.below HW1.out) (H10.out.below HW1.out)).mono ?_
    rintro e w2 ⟨rfl, hb2⟩
    have HW2 := Lib.hid (below_chain HW1.out hb2)
    clear hb2
    go_wp2_with fail
    refine (HR.out _ (HT.out.below HW2.out)).mono ?_
    rintro e w3 ⟨rfl, hb3⟩
    have HW3 := Lib.hid (below_chain HW2.out hb3)
    clear hb3
    go_wp2_with fail
    refine (HC.out _).mono ?_
    rintro e w4 ⟨rfl, hb4⟩
    have HW4 := Lib.hid (below_chain HW3.out hb4)
    clear hb4
    go_wp2_with fail
    refine (quiet_S _).mono ?_
    rintro e w5 ⟨rfl, hb5⟩
    have HW5 := Lib.hid (below_chain HW4.out hb5)
    clear hb5
    go_wp2
    go_ret
    exact ⟨rfl, HW5.out⟩
  · have hki : ((c : Int) == 4) = false := by rw [beq_eq_false_iff_ne]; omega
    generalize bs T = TS at *
    go_enter Tryd.func3, Tryd.ntmps3
    go_wp2_with fail
    refine (awake_walk w HT.out H10.out).mono ?_
    rintro e w1 ⟨rfl, hb1⟩
    have HW1 := Lib.hid hb1
    clear hb1
    go_wp2_with fail
    refine (formats_yes 32 (.inl rfl) _).mono ?_
    rintro e w2 ⟨rfl, rfl⟩
    skip
    go_wp2_with fail
    refine (HP.out _ (HT.out.below HW1.out) (H10.out.below HW1.out)).mono ?_
    rintro e w2 ⟨rfl, hb2⟩
    have HW2 := Lib.hid (below_chain HW1.out hb2)
    clear hb2
    go_wp2_with fail
    refine (HR.out _ (HT.out.below HW2.out)).mono ?_
    rintro e w3 ⟨rfl, hb3⟩
    have HW3 := Lib.hid (below_chain HW2.out hb3)
    clear hb3
    go_wp2_with fail
    refine (HC.out _).mono ?_
    rintro e w4 ⟨rfl, hb4⟩
    have HW4 := Lib.hid (below_chain HW3.out hb4)
    clear hb4
    go_wp2_with fail
    refine (quiet_S _).mono ?_
    rintro e w5 ⟨rfl, hb5⟩
    have HW5 := Lib.hid (below_chain HW4.out hb5)
    clear hb5
    go_wp2
    go_ret
    exact ⟨rfl, HW5.out⟩

theorem print_any_D (b : Nat) (hb : b < 18446744073709551616) : ∃ T : List UInt8, T.length ≤ 100 ∧
    (∀ W, Tab64 W → Tab10 W → Calls Tryd.prog 12 #[.int .i64 64, .int .u64 (b : Int)] W fun e w' => e = .returned (.tuple #[.string (bs T), .int .i64 0]) ∧ Below W.heap.size W w') ∧
    ((clsN 4503599627370496 9218868437227405312 (b % 9223372036854775808) = 4 ∧ T = [110, 97, 110]) ∨ (clsN 4503599627370496 9218868437227405312 (b % 9223372036854775808) ≠ 4 ∧ b % 9223372036854775808 ≤ 9218868437227405312 ∧ ∀ g : Fm, g.ok → parseOf g (bs T) = some (sgn g (decide (9223372036854775808 ≤ b)) (if b % 9223372036854775808 = 9218868437227405312 then g.inf else hxPat g (ptM 4503599627370496 (b % 9223372036854775808)) (ptE 4503599627370496 (-1074) (b % 9223372036854775808)))))) := by
  by_cases h0 : b % 9223372036854775808 = 0
  · have hc : clsN 4503599627370496 9218868437227405312 (b % 9223372036854775808) = 0 := by unfold clsN; rw [if_pos h0]
    refine ⟨prR (decide (9223372036854775808 ≤ b)) 0, by cases decide (9223372036854775808 ≤ b) <;> decide, fun W h1 h2 => ?_, .inr ⟨by rw [hc]; decide, by omega, fun g hg => ?_⟩⟩
    · have := print_rest_D b hb (.inl hc) W
      rw [hc] at this
      exact this
    · rw [(rest_read g hg _).1, if_neg (by omega), h0, show ptM 4503599627370496 0 = 0 from rfl, hx_nought]
  by_cases h3 : b % 9223372036854775808 = 9218868437227405312
  · have hc : clsN 4503599627370496 9218868437227405312 (b % 9223372036854775808) = 3 := by rw [h3]; decide
    refine ⟨prR (decide (9223372036854775808 ≤ b)) 3, by cases decide (9223372036854775808 ≤ b) <;> decide, fun W h1 h2 => ?_, .inr ⟨by rw [hc]; decide, by omega, fun g hg => ?_⟩⟩
    · have := print_rest_D b hb (.inr (.inl hc)) W
      rw [hc] at this
      exact this
    · rw [(rest_read g hg _).2.1, if_pos h3]
  by_cases h4 : 9218868437227405312 < b % 9223372036854775808
  · have hc : clsN 4503599627370496 9218868437227405312 (b % 9223372036854775808) = 4 := by
      unfold clsN
      rw [if_neg h0, if_neg (by omega), if_neg (by omega), if_neg h3]
    refine ⟨[110, 97, 110], by decide, fun W h1 h2 => ?_, .inl ⟨hc, rfl⟩⟩
    have := print_rest_D b hb (.inr (.inr hc)) W
    rw [hc] at this
    exact this
  · have hfin : b % 9223372036854775808 < 9218868437227405312 := by omega
    have hc : clsN 4503599627370496 9218868437227405312 (b % 9223372036854775808) ≠ 4 := by
      unfold clsN
      rw [if_neg h0]
      split
      · decide
      · first | (rw [if_pos hfin]; decide) | decide
    have hm := ptM_facts fmD (by decide) (b % 9223372036854775808)
    rw [show 2 ^ (fmD.P - 1) = 4503599627370496 by decide, show 2 ^ fmD.P = 2 * 4503599627370496 by decide] at hm
    have hbl : blen (ptM 4503599627370496 (b % 9223372036854775808)) ≤ 53 := blen_le.2 hm.1
    have he : -2000 ≤ ptE 4503599627370496 (-1074) (b % 9223372036854775808) ∧ ptE 4503599627370496 (-1074) (b % 9223372036854775808) ≤ 5000 := by
      have hq : b % 9223372036854775808 / 4503599627370496 ≤ 2047 := by omega
      unfold ptE
      generalize b % 9223372036854775808 / 4503599627370496 = q at *
      split <;> omega
    refine ⟨prN (decide (9223372036854775808 ≤ b)) (digs 16 (fracOf (ptM 4503599627370496 (b % 9223372036854775808)))) (ptE 4503599627370496 (-1074) (b % 9223372036854775808) + ((blen (ptM 4503599627370496 (b % 9223372036854775808)) - 1 : Nat) : Int)), prN_len _ _ _ (by omega) (by omega), fun W h1 h2 => print_num_D b hb h0 hfin W h1 h2, .inr ⟨hc, by omega, fun g hg => ?_⟩⟩
    rw [print_means hg _ _ _ (hm.2 h0) (by omega) (by omega) (by omega), if_neg h3]
theorem back_val_D (b : Nat) (hb : b < 18446744073709551616) (hz : b % 9223372036854775808 ≤ 9218868437227405312) : (sgn fmD (decide (9223372036854775808 ≤ b)) (if b % 9223372036854775808 = 9218868437227405312 then fmD.inf else hxPat fmD (ptM 4503599627370496 (b % 9223372036854775808)) (ptE 4503599627370496 (-1074) (b % 9223372036854775808)))) = b := by
  have hi : fmD.inf = 9218868437227405312 := by decide
  have e : (if b % 9223372036854775808 = 9218868437227405312 then fmD.inf else hxPat fmD (ptM 4503599627370496 (b % 9223372036854775808)) (ptE 4503599627370496 (-1074) (b % 9223372036854775808))) = b % 9223372036854775808 := by
    split
    · rename_i h; rw [hi, h]
    · exact parts_exact (f := fmD) (.inr rfl) (b % 9223372036854775808) (by rw [hi]; exact hz)
  rw [e]
  unfold sgn
  have e2 : 2 ^ fmD.S = 9223372036854775808 := by decide
  rw [e2]
  by_cases h : 9223372036854775808 ≤ b
  · rw [if_pos (decide_eq_true h)]; omega
  · rw [if_neg (by simpa using h)]; omega

set_option maxRecDepth 100000 in
set_option maxHeartbeats 1000000 in
theorem back_main_D (b : Nat) (hb : b < 18446744073709551616) (w : World) (ht : Tab64 w) (h10 : Tab10 w) :
    Calls Tryd.prog 3 #[.int .i64 64, .int .u64 (b : Int)] w fun e w' => e = .returned (.bool true) ∧ Below w.heap.size w w' := by
  obtain ⟨T, hTl, hP, hcase⟩ := print_any_D b hb
  have HP := Lib.hid hP
  have HT := Lib.hid ht
  have H10 := Lib.hid h10
  have HC := Lib.hid (fun w => classOf_D b hb w)
  have hbi : True := trivial
  obtain ⟨c, hc⟩ : ∃ c, clsN 4503599627370496 9218868437227405312 (b % 9223372036854775808) = c := ⟨_, rfl⟩
  obtain ⟨V, HR, hk⟩ : ∃ V : Nat, Hid (∀ W, Tab64 W → Calls Tryd.prog 13 #[.int .i64 64, .string (bs T)] W fun e w' => e = .returned (.tuple #[.int .u64 (V : Int), .int .i64 0]) ∧ Below W.heap.size W w') ∧ ((c = 4 ∧ T = [110, 97, 110] ∧ V = 9221120237041090561) ∨ (c ≠ 4 ∧ V = b)) := by
    rcases hcase with ⟨hc4, rfl⟩ | ⟨hc4, hz, hr⟩
    · exact ⟨9221120237041090561, Lib.hid fun W hW => parse_bs 64 (.inr rfl) _ 9221120237041090561 (by decide) (rest_read fmD (.inr rfl) false).2.2 W hW, .inl ⟨by rw [← hc]; exact hc4, rfl, rfl⟩⟩
    · have := hr fmD (.inr rfl)
      rw [back_val_D b hb hz] at this
      exact ⟨b, Lib.hid fun W hW => parse_bs 64 (.inr rfl) _ b (by omega) this W hW, .inr ⟨by rw [← hc]; exact hc4, rfl⟩⟩
  rw [hc] at HC
  clear hcase hP ht h10 hb hc hTl
  rcases hk with ⟨rfl, rfl, hV⟩ | ⟨hk, rfl⟩
  · have hn : ((bs [110, 97, 110]).toList == [110, 97, 110]) = true := by rw [bs_list]; rfl
    have hV2 : ((V : Int) == 9221120237041090561) = true := by rw [beq_iff_eq]; omega
    clear hV
    generalize bs [110, 97, 110] = TS at *
    go_enter Tryd.func3, Tryd.ntmps3
    go_wp2_with fail
    refine (awake_walk w HT.out H10.out).mono ?_
    rintro e w1 ⟨rfl, hb1⟩
    have HW1 := Lib.hid hb1
    clear hb1
    go_wp2_with fail
    refine (formats_yes 64 (.inr rfl) _).mono ?_
    rintro e w2 ⟨rfl, rfl⟩
    skip
    go_wp2_with fail
    refine (HP.out _ (HT.out.below HW1.out) (H10.out.below HW1.out)).mono ?_
    rintro e w2 ⟨rfl, hb2⟩
    have HW2 := Lib.hid (below_chain HW1.out hb2)
    clear hb2
    go_wp2_with fail
    refine (HR.out _ (HT.out.below HW2.out)).mono ?_
    rintro e w3 ⟨rfl, hb3⟩
    have HW3 := Lib.hid (below_chain HW2.out hb3)
    clear hb3
    go_wp2_with fail
    refine (HC.out _).mono ?_
    rintro e w4 ⟨rfl, hb4⟩
    have HW4 := Lib.hid (below_chain HW3.out hb4)
    clear hb4
    go_wp2_with fail
    refine (quiet_D _).mono ?_
    rintro e w5 ⟨rfl, hb5⟩
    have HW5 := Lib.hid (below_chain HW4.out hb5)
    clear hb5
    go_wp2
    go_ret
    exact ⟨rfl, HW5.out⟩
  · have hki : ((c : Int) == 4) = false := by rw [beq_eq_false_iff_ne]; omega
    generalize bs T = TS at *
    go_enter Tryd.func3, Tryd.ntmps3
    go_wp2_with fail
    refine (awake_walk w HT.out H10.out).mono ?_
    rintro e w1 ⟨rfl, hb1⟩
    have HW1 := Lib.hid hb1
    clear hb1
    go_wp2_with fail
    refine (formats_yes 64 (.inr rfl) _).mono ?_
    rintro e w2 ⟨rfl, rfl⟩
    skip
    go_wp2_with fail
    refine (HP.out _ (HT.out.below HW1.out) (H10.out.below HW1.out)).mono ?_
    rintro e w2 ⟨rfl, hb2⟩
    have HW2 := Lib.hid (below_chain HW1.out hb2)
    clear hb2
    go_wp2_with fail
    refine (HR.out _ (HT.out.below HW2.out)).mono ?_
    rintro e w3 ⟨rfl, hb3⟩
    have HW3 := Lib.hid (below_chain HW2.out hb3)
    clear hb3
    go_wp2_with fail
    refine (HC.out _).mono ?_
    rintro e w4 ⟨rfl, hb4⟩
    have HW4 := Lib.hid (below_chain HW3.out hb4)
    clear hb4
    go_wp2_with fail
    refine (quiet_D _).mono ?_
    rintro e w5 ⟨rfl, hb5⟩
    have HW5 := Lib.hid (below_chain HW4.out hb5)
    clear hb5
    go_wp2
    go_ret
    exact ⟨rfl, HW5.out⟩

set_option maxRecDepth 100000 in
theorem back_wide (b : Nat) (h1 : 4294967296 ≤ b) (h2 : b < 18446744073709551616) (w : World) (ht : Tab64 w) (h10 : Tab10 w) :
    Calls Tryd.prog 3 #[.int .i64 32, .int .u64 (b : Int)] w fun e w' => e = .returned (.bool true) ∧ Below w.heap.size w w' := by
  have HT := Lib.hid ht
  have H10 := Lib.hid h10
  have HP := Lib.hid (fun w => print_wide b h1 h2 w)
  have hbi : (4294967296 : Int) ≤ (b : Int) := by omega
  clear ht h10 h1 h2
  go_enter Tryd.func3, Tryd.ntmps3
  go_wp2_with fail
  refine (awake_walk w HT.out H10.out).mono ?_
  rintro e w1 ⟨rfl, hb1⟩
  go_wp2_with fail
  refine (formats_yes 32 (.inl rfl) _).mono ?_
  rintro e w2 ⟨rfl, rfl⟩
  go_wp2_with fail
  refine (HP.out _).mono ?_
  rintro e w2 ⟨rfl, hb2⟩
  go_wp2
  go_ret
  exact ⟨rfl, below_chain hb1 hb2⟩

set_option maxRecDepth 100000 in
/-- The law's walk: whatever the arguments, it answers true. -/
theorem back_walk (f : Int) (b : Nat) (hb : b < 18446744073709551616) (w : World) (ht : Tab64 w) (h10 : Tab10 w) :
    Calls Tryd.prog 3 #[.int .i64 f, .int .u64 (b : Int)] w fun e w' => e = .returned (.bool true) ∧ Below w.heap.size w w' := by
  by_cases h32 : f = 32
  · subst h32
    by_cases hw : b < 4294967296
    · exact back_main_S b hw w ht h10
    · exact back_wide b (by omega) hb w ht h10
  by_cases h64 : f = 64
  · subst h64
    exact back_main_D b hb w ht h10
  have HT := Lib.hid ht
  have H10 := Lib.hid h10
  have HP := Lib.hid (fun w => print_no f h32 h64 b w)
  have HN := Lib.hid (fun w => formats_no f h32 h64 w)
  clear ht h10 h32 h64 hb
  go_enter Tryd.func3, Tryd.ntmps3
  go_wp2_with fail
  refine (awake_walk w HT.out H10.out).mono ?_
  rintro e w1 ⟨rfl, hb1⟩
  go_wp2_with fail
  refine (HN.out _).mono ?_
  rintro e w2 ⟨rfl, rfl⟩
  go_wp2_with fail
  refine (HP.out _).mono ?_
  rintro e w2 ⟨rfl, hb2⟩
  go_wp2
  go_ret
  exact ⟨rfl, below_chain hb1 hb2⟩
end Go.Proofs.YtooehlneoboenaaDoor
