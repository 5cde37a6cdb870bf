/- What hexfloat Print answers at any pattern, and how that is read. -/
import Derived.Test.YtfacjlffkcbagaaGreatDoorHi
import Derived.Test.YtfacjlffkcbagaaGreatDoorHj
import Derived.Test.YtfacjlffkcbagaaGreatDoorTc
namespace Go.Proofs.YtfacjlffkcbagaaGreatDoor
open Go.RowKit Go.Sort
/-- The format of a number. -/
def fmOf (f : Int) : Fm := if f = 32 then fmS else fmD
theorem parse_any (f : Int) (hf : f = 32 ∨ f = 64) (s : ByteArray) (hs : s.size ≤ 4000) (w : World) (ht : Tab64 w) :
    Calls Tryz.prog 7 #[.int .i64 f, .string s] w fun e w' => e = .returned (.tuple #[.int .u64 (((parseOf (fmOf f) s).getD 0 : Nat) : Int), .int .i64 (if (parseOf (fmOf f) s).isSome then 0 else 8)]) ∧ Below w.heap.size w w' := by
  rcases hf with rfl | rfl
  · refine (parse_walk_S s w (by omega) ht).mono fun e w' ⟨he, hb⟩ => ⟨?_, hb⟩
    rw [he]; unfold prP prE; rw [if_pos hs, if_pos hs]; rfl
  · refine (parse_walk_D s w (by omega) ht).mono fun e w' ⟨he, hb⟩ => ⟨?_, hb⟩
    rw [he]; unfold prP prE; rw [if_pos hs, if_pos hs]; rfl
theorem fmOf_ok {f : Int} (hf : f = 32 ∨ f = 64) : (fmOf f).ok := by rcases hf with rfl | rfl; exact .inl rfl; exact .inr rfl
/-- Parse of a text that means a pattern. -/
theorem parse_bs (f : Int) (hf : f = 32 ∨ f = 64) (l : List UInt8) (p : Nat) (hl : l.length ≤ 4000) (hp : parseOf (fmOf f) (bs l) = some p) (W : World) (ht : Tab64 W) :
    Calls Tryz.prog 7 #[.int .i64 f, .string (bs l)] W fun e w' => e = .returned (.tuple #[.int .u64 (p : Int), .int .i64 0]) ∧ Below W.heap.size W w' := by
  have := parse_any f hf (bs l) (by rw [bs_size]; exact hl) W ht
  rw [hp] at this
  exact this
theorem hxdigs_len (k r : Nat) : (digs k r).length ≤ k := by
  induction k generalizing r with
  | zero => simp [digs]
  | succ k ih => unfold digs; split; simp; rw [List.length_cons]; have := ih (r * 16 % 2 ^ 64); omega
theorem prN_len (neg : Bool) (r : Nat) (t : Int) (h1 : -10000 ≤ t) (h2 : t ≤ 10000) : (prN neg (digs 16 r) t).length ≤ 100 := by
  have a1 := hxdigs_len 16 r
  have a2 := itoa_len (if t < 0 then -t else t) (by split <;> omega) (by split <;> omega)
  unfold prN
  simp only [List.length_append, List.length_cons, List.length_nil]
  have a3 : (if neg then [45] else [] : List UInt8).length ≤ 1 := by split <;> simp
  have a4 : (if digs 16 r = [] then [] else 46 :: digs 16 r : List UInt8).length ≤ 17 := by split; simp; rw [List.length_cons]; omega
  omega
theorem rest_read (g : Fm) (hg : g.ok) (neg : Bool) : parseOf g (bs (prR neg 0)) = some (sgn g neg 0) ∧ parseOf g (bs (prR neg 3)) = some (sgn g neg g.inf) ∧ parseOf g (bs (prR neg 4)) = some g.quiet := by
  rcases hg with rfl | rfl <;> cases neg <;> decide +kernel
theorem hx_nought (g : Fm) (x : Int) : hxPat g 0 x = 0 := by unfold hxPat; rw [if_pos (.inl rfl)]

theorem print_any_S (b : Nat) (hb : b < 4294967296) : ∃ T : List UInt8, T.length ≤ 100 ∧
    (∀ W, Tab64 W → Tab10 W → Calls Tryz.prog 10 #[.int .i64 32, .int .u64 (b : Int)] W fun e w' => e = .returned (.tuple #[.string (bs T), .int .i64 0]) ∧ Below W.heap.size W w') ∧
    ((clsN 8388608 2139095040 (b % 2147483648) = 4 ∧ T = [110, 97, 110]) ∨ (clsN 8388608 2139095040 (b % 2147483648) ≠ 4 ∧ b % 2147483648 ≤ 2139095040 ∧ ∀ g : Fm, g.ok → parseOf g (bs T) = some (sgn g (decide (2147483648 ≤ b)) (if b % 2147483648 = 2139095040 then g.inf else hxPat g (ptM 8388608 (b % 2147483648)) (ptE 8388608 (-149) (b % 2147483648)))))) := by
  by_cases h0 : b % 2147483648 = 0
  · have hc : clsN 8388608 2139095040 (b % 2147483648) = 0 := by unfold clsN; rw [if_pos h0]
    refine ⟨prR (decide (2147483648 ≤ b)) 0, by cases decide (2147483648 ≤ b) <;> decide, fun W h1 h2 => ?_, .inr ⟨by rw [hc]; decide, by omega, fun g hg => ?_⟩⟩
    · have := print_rest_S b hb (.inl hc) W
      rw [hc] at this
      exact this
    · rw [(rest_read g hg _).1, if_neg (by omega), h0, show ptM 8388608 0 = 0 from rfl, hx_nought]
  by_cases h3 : b % 2147483648 = 2139095040
  · have hc : clsN 8388608 2139095040 (b % 2147483648) = 3 := by rw [h3]; decide
    refine ⟨prR (decide (2147483648 ≤ b)) 3, by cases decide (2147483648 ≤ b) <;> decide, fun W h1 h2 => ?_, .inr ⟨by rw [hc]; decide, by omega, fun g hg => ?_⟩⟩
    · have := print_rest_S b hb (.inr (.inl hc)) W
      rw [hc] at this
      exact this
    · rw [(rest_read g hg _).2.1, if_pos h3]
  by_cases h4 : 2139095040 < b % 2147483648
  · have hc : clsN 8388608 2139095040 (b % 2147483648) = 4 := by
      unfold clsN
      rw [if_neg h0, if_neg (by omega), if_neg (by omega), if_neg h3]
    refine ⟨[110, 97, 110], by decide, fun W h1 h2 => ?_, .inl ⟨hc, rfl⟩⟩
    have := print_rest_S b hb (.inr (.inr hc)) W
    rw [hc] at this
    exact this
  · have hfin : b % 2147483648 < 2139095040 := by omega
    have hc : clsN 8388608 2139095040 (b % 2147483648) ≠ 4 := by
      unfold clsN
      rw [if_neg h0]
      split
      · decide
      · first | (rw [if_pos hfin]; decide) | decide
    have hm := ptM_facts fmS (by decide) (b % 2147483648)
    rw [show 2 ^ (fmS.P - 1) = 8388608 by decide, show 2 ^ fmS.P = 2 * 8388608 by decide] at hm
    have hbl : blen (ptM 8388608 (b % 2147483648)) ≤ 24 := blen_le.2 hm.1
    have he : -2000 ≤ ptE 8388608 (-149) (b % 2147483648) ∧ ptE 8388608 (-149) (b % 2147483648) ≤ 5000 := by
      have hq : b % 2147483648 / 8388608 ≤ 2047 := by omega
      unfold ptE
      generalize b % 2147483648 / 8388608 = q at *
      split <;> omega
    refine ⟨prN (decide (2147483648 ≤ b)) (digs 16 (fracOf (ptM 8388608 (b % 2147483648)))) (ptE 8388608 (-149) (b % 2147483648) + ((blen (ptM 8388608 (b % 2147483648)) - 1 : Nat) : Int)), prN_len _ _ _ (by omega) (by omega), fun W h1 h2 => print_num_S b hb h0 hfin W h1 h2, .inr ⟨hc, by omega, fun g hg => ?_⟩⟩
    rw [print_means hg _ _ _ (hm.2 h0) (by omega) (by omega) (by omega), if_neg h3]
theorem back_val_S (b : Nat) (hb : b < 4294967296) (hz : b % 2147483648 ≤ 2139095040) : (sgn fmS (decide (2147483648 ≤ b)) (if b % 2147483648 = 2139095040 then fmS.inf else hxPat fmS (ptM 8388608 (b % 2147483648)) (ptE 8388608 (-149) (b % 2147483648)))) = b := by
  have hi : fmS.inf = 2139095040 := by decide
  have e : (if b % 2147483648 = 2139095040 then fmS.inf else hxPat fmS (ptM 8388608 (b % 2147483648)) (ptE 8388608 (-149) (b % 2147483648))) = b % 2147483648 := by
    split
    · rename_i h; rw [hi, h]
    · exact parts_exact (f := fmS) (.inl rfl) (b % 2147483648) (by rw [hi]; exact hz)
  rw [e]
  unfold sgn
  have e2 : 2 ^ fmS.S = 2147483648 := by decide
  rw [e2]
  by_cases h : 2147483648 ≤ b
  · rw [if_pos (decide_eq_true h)]; omega
  · rw [if_neg (by simpa using h)]; omega

theorem print_any_D (b : Nat) (hb : b < 18446744073709551616) : ∃ T : List UInt8, T.length ≤ 100 ∧
    (∀ W, Tab64 W → Tab10 W → Calls Tryz.prog 10 #[.int .i64 64, .int .u64 (b : Int)] W fun e w' => e = .returned (.tuple #[.string (bs T), .int .i64 0]) ∧ Below W.heap.size W w') ∧
    ((clsN 4503599627370496 9218868437227405312 (b % 9223372036854775808) = 4 ∧ T = [110, 97, 110]) ∨ (clsN 4503599627370496 9218868437227405312 (b % 9223372036854775808) ≠ 4 ∧ b % 9223372036854775808 ≤ 9218868437227405312 ∧ ∀ g : Fm, g.ok → parseOf g (bs T) = some (sgn g (decide (9223372036854775808 ≤ b)) (if b % 9223372036854775808 = 9218868437227405312 then g.inf else hxPat g (ptM 4503599627370496 (b % 9223372036854775808)) (ptE 4503599627370496 (-1074) (b % 9223372036854775808)))))) := by
  by_cases h0 : b % 9223372036854775808 = 0
  · have hc : clsN 4503599627370496 9218868437227405312 (b % 9223372036854775808) = 0 := by unfold clsN; rw [if_pos h0]
    refine ⟨prR (decide (9223372036854775808 ≤ b)) 0, by cases decide (9223372036854775808 ≤ b) <;> decide, fun W h1 h2 => ?_, .inr ⟨by rw [hc]; decide, by omega, fun g hg => ?_⟩⟩
    · have := print_rest_D b hb (.inl hc) W
      rw [hc] at this
      exact this
    · rw [(rest_read g hg _).1, if_neg (by omega), h0, show ptM 4503599627370496 0 = 0 from rfl, hx_nought]
  by_cases h3 : b % 9223372036854775808 = 9218868437227405312
  · have hc : clsN 4503599627370496 9218868437227405312 (b % 9223372036854775808) = 3 := by rw [h3]; decide
    refine ⟨prR (decide (9223372036854775808 ≤ b)) 3, by cases decide (9223372036854775808 ≤ b) <;> decide, fun W h1 h2 => ?_, .inr ⟨by rw [hc]; decide, by omega, fun g hg => ?_⟩⟩
    · have := print_rest_D b hb (.inr (.inl hc)) W
      rw [hc] at this
      exact this
    · rw [(rest_read g hg _).2.1, if_pos h3]
  by_cases h4 : 9218868437227405312 < b % 9223372036854775808
  · have hc : clsN 4503599627370496 9218868437227405312 (b % 9223372036854775808) = 4 := by
      unfold clsN
      rw [if_neg h0, if_neg (by omega), if_neg (by omega), if_neg h3]
    refine ⟨[110, 97, 110], by decide, fun W h1 h2 => ?_, .inl ⟨hc, rfl⟩⟩
    have := print_rest_D b hb (.inr (.inr hc)) W
    rw [hc] at this
    exact this
  · have hfin : b % 9223372036854775808 < 9218868437227405312 := by omega
    have hc : clsN 4503599627370496 9218868437227405312 (b % 9223372036854775808) ≠ 4 := by
      unfold clsN
      rw [if_neg h0]
      split
      · decide
      · first | (rw [if_pos hfin]; decide) | decide
    have hm := ptM_facts fmD (by decide) (b % 9223372036854775808)
    rw [show 2 ^ (fmD.P - 1) = 4503599627370496 by decide, show 2 ^ fmD.P = 2 * 4503599627370496 by decide] at hm
    have hbl : blen (ptM 4503599627370496 (b % 9223372036854775808)) ≤ 53 := blen_le.2 hm.1
    have he : -2000 ≤ ptE 4503599627370496 (-1074) (b % 9223372036854775808) ∧ ptE 4503599627370496 (-1074) (b % 9223372036854775808) ≤ 5000 := by
      have hq : b % 9223372036854775808 / 4503599627370496 ≤ 2047 := by omega
      unfold ptE
      generalize b % 9223372036854775808 / 4503599627370496 = q at *
      split <;> omega
    refine ⟨prN (decide (9223372036854775808 ≤ b)) (digs 16 (fracOf (ptM 4503599627370496 (b % 9223372036854775808)))) (ptE 4503599627370496 (-1074) (b % 9223372036854775808) + ((blen (ptM 4503599627370496 (b % 9223372036854775808)) - 1 : Nat) : Int)), prN_len _ _ _ (by omega) (by omega), fun W h1 h2 => print_num_D b hb h0 hfin W h1 h2, .inr ⟨hc, by omega, fun g hg => ?_⟩⟩
    rw [print_means hg _ _ _ (hm.2 h0) (by omega) (by omega) (by omega), if_neg h3]
theorem back_val_D (b : Nat) (hb : b < 18446744073709551616) (hz : b % 9223372036854775808 ≤ 9218868437227405312) : (sgn fmD (decide (9223372036854775808 ≤ b)) (if b % 9223372036854775808 = 9218868437227405312 then fmD.inf else hxPat fmD (ptM 4503599627370496 (b % 9223372036854775808)) (ptE 4503599627370496 (-1074) (b % 9223372036854775808)))) = b := by
  have hi : fmD.inf = 9218868437227405312 := by decide
  have e : (if b % 9223372036854775808 = 9218868437227405312 then fmD.inf else hxPat fmD (ptM 4503599627370496 (b % 9223372036854775808)) (ptE 4503599627370496 (-1074) (b % 9223372036854775808))) = b % 9223372036854775808 := by
    split
    · rename_i h; rw [hi, h]
    · exact parts_exact (f := fmD) (.inr rfl) (b % 9223372036854775808) (by rw [hi]; exact hz)
  rw [e]
  unfold sgn
  have e2 : 2 ^ fmD.S = 9223372036854775808 := by decide
  rw [e2]
  by_cases h : 9223372036854775808 ≤ b
  · rw [if_pos (decide_eq_true h)]; omega
  · rw [if_neg (by simpa using h)]; omega
end Go.Proofs.YtfacjlffkcbagaaGreatDoor
