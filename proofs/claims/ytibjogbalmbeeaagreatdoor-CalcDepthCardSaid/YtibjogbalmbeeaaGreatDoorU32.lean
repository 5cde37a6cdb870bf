/- Facts for decimal: Print. · Walk of decimal: Print. · What wakes the laws: 0.1, plain. · Walk of the law's helpers: format, sign. · Walk of the law's awake. · The law Back, plain: what Print answers is read back. · Walks of hexfloat's reader: take, fail, must, sign. · Walks of hexfloat's reader: hex, decimal. · Walks of hexfloat: value, limbs. · Walks of hexfloat: pattern, for both formats (printed by gen_pat.py). · Walks of hexfloat's reader: number. · The walk of hexfloat's reader: number. · Walks of binary: shapeOf, Quiet; of hexfloat's reader: read; for both formats (printed by gen_read.py). · The walks of hexfloat.Parse and of the closure that it defers. · The walk of hexfloat.Parse, for both formats (printed by gen_parse.py). · Walks of binary: Split. · Walks of strconv: FormatUint at base 16. · Facts for Print: texts joined, hexadecimal digits of a fraction, the table of powers of ten. · The walk of hexfloat.Print (printed by gen_print.py). · Plain law: what a well-made text means. · Plain law: texts of numbers, those that Print writes among them; Join's number. · What hexfloat Print answers at any pattern, and how that is read. · Plain facts: what Print spells of a pattern, cut by calc; how it is read. · Plain facts for calc: Print's text is one alone. -/
import Derived.Test.YtibjogbalmbeeaaGreatDoorU29
import Derived.Test.YtibjogbalmbeeaaGreatDoorU31
import Derived.Test.YtibjogbalmbeeaaGreatDoorU17
import Derived.Test.YtibjogbalmbeeaaGreatDoorU23
import Derived.Test.YtibjogbalmbeeaaGreatDoorU30
import Derived.Test.YtibjogbalmbeeaaGreatDoorU06
import Derived.Lib.IndexAny
import Derived.Test.YtibjogbalmbeeaaGreatDoorU10
import Derived.Test.YtibjogbalmbeeaaGreatDoorU16
import Derived.Defers
import Derived.Recover
import Derived.Test.YtibjogbalmbeeaaGreatDoorU02
import Derived.Lib.ItoaWalk
import Derived.Lib.ItoaMem
import Derived.Test.YtibjogbalmbeeaaGreatDoorU12
import Derived.Test.YtibjogbalmbeeaaGreatDoorU25

namespace Go.Proofs.YtibjogbalmbeeaaGreatDoor
open Go.RowKit

/-- What Print answers. -/
def PrOk (f : Fm) (b : Nat) (T : List UInt8) : Prop :=
  (f.inf < b % 2 ^ f.S → T = [110, 97, 110]) ∧ (b % 2 ^ f.S = f.inf → T = (if 2 ^ f.S ≤ b then [45] else []) ++ [105, 110, 102]) ∧ (b % 2 ^ f.S = 0 → T = (if 2 ^ f.S ≤ b then [45] else []) ++ [48]) ∧
  (b % 2 ^ f.S ≠ 0 → b % 2 ^ f.S < f.inf → ∃ (d : Nat) (q : Int), (ShOk f (b % 2 ^ f.S) d q ∧ d < 10 ^ 18 ∧ -500 ≤ q ∧ q ≤ 500) ∧ T = (if 2 ^ f.S ≤ b then [45] else []) ++ layS (tl0 (Lib.decDigits d)) (q + ((Lib.decDigits d).length : Int) - ((tl0 (Lib.decDigits d)).length : Int)))
/-- What is found is not nought. -/
theorem sh_pos {f : Fm} {z d : Nat} {q : Int} (h : ShOk f z d q) : d ≠ 0 := by
  obtain ⟨t, n, ⟨h1, _⟩, hn1, _, hq, hd, _⟩ := h
  have e := uf_shift f q (n - 1)
  rw [show q + ((n - 1 : Nat) : Int) = t by omega] at e
  have hG := ufG_pos q
  have hT := ufG_pos t
  have k1 : ufF f t * ufG q ≤ 2 * vP f z * ufG t * ufG q := Nat.mul_le_mul_right _ h1
  rw [e] at k1
  have k2 : ufF f q ≤ 2 * vP f z * ufG q := by
    refine Nat.le_of_mul_le_mul_right (c := ufG t) ?_ hT
    calc ufF f q * ufG t ≤ 10 ^ (n - 1) * ufF f q * ufG t := Nat.mul_le_mul_right _ (Nat.le_mul_of_pos_left _ (Nat.pow_pos (by omega)))
      _ ≤ _ := k1
      _ = _ := by ac_rfl
  have k3 : 1 ≤ shL f z q := Nat.div_pos k2 (ufF_pos f q)
  unfold shD at hd
  split at hd
  · injection hd with hd
    subst hd
    split <;> omega
  · split at hd
    · injection hd with hd
      omega
    · split at hd
      · injection hd with hd
        omega
      · exact absurd hd (by simp)
theorem tl0_len (l : List UInt8) : (tl0 l).length ≤ l.length := by
  unfold tl0 Lib.trimRightB
  rw [List.length_reverse]
  have := (List.dropWhile_sublist (l := l.reverse) (· == 48)).length_le
  rwa [List.length_reverse] at this
theorem drop_some (c : UInt8) (hc : c ≠ 48) : ∀ l : List UInt8, c ∈ l → 1 ≤ (l.dropWhile (· == 48)).length
  | [], h => absurd h (by simp)
  | a :: l, h => by
    rw [List.dropWhile_cons]
    split
    · rename_i ha
      refine drop_some c hc l ?_
      rcases List.mem_cons.1 h with e | e
      · exact absurd (by rw [e]; exact beq_iff_eq.1 ha) hc
      · exact e
    · simp
theorem tl0_some {d : Nat} (hd : d ≠ 0) : 1 ≤ (tl0 (Lib.decDigits d)).length := by
  obtain ⟨c, t, e, hc⟩ := (dcV_digits d).2.2.1 hd
  unfold tl0 Lib.trimRightB
  rw [List.length_reverse]
  exact drop_some c hc _ (by rw [e]; simp)
theorem layS_len {D : List UInt8} {q : Int} (h1 : D.length ≤ 18) (q1 : -1000 ≤ q) (q2 : q ≤ 1000) : (layS D q).length ≤ 200 := by
  unfold layS
  split
  · rw [List.length_append, List.length_replicate]; omega
  · split
    · simp only [List.length_append, List.length_take, List.length_drop, List.length_cons, List.length_nil]; omega
    · split
      · simp only [List.length_append, List.length_replicate, List.length_cons, List.length_nil]; omega
      · have h5 := itoa_len ((D.length : Int) + q - 1) (by omega) (by omega)
        have h6 : (ptd D).length ≤ 40 := by
          unfold ptd
          split
          · omega
          · simp only [List.length_append, List.length_take, List.length_drop, List.length_cons, List.length_nil]; omega
        simp only [List.length_append, List.length_cons, List.length_nil]; omega
theorem dq_lo {d : Nat} {q : Int} (h : d < 10 ^ 18 ∧ -500 ≤ q ∧ q ≤ 500) : -2000 ≤ q + ((Lib.decDigits d).length : Int) - ((tl0 (Lib.decDigits d)).length : Int) := by
  have := decDigits_len h.1 (by omega)
  have := tl0_len (Lib.decDigits d)
  omega
theorem dq_hi {d : Nat} {q : Int} (h : d < 10 ^ 18 ∧ -500 ≤ q ∧ q ≤ 500) : q + ((Lib.decDigits d).length : Int) - ((tl0 (Lib.decDigits d)).length : Int) ≤ 2000 := by
  have := decDigits_len h.1 (by omega)
  have := tl0_len (Lib.decDigits d)
  omega
theorem lay_size {d : Nat} {q : Int} (h : d < 10 ^ 18 ∧ -500 ≤ q ∧ q ≤ 500) : (bs (layS (tl0 (Lib.decDigits d)) (q + ((Lib.decDigits d).length : Int) - ((tl0 (Lib.decDigits d)).length : Int)))).size ≤ 200 := by
  have := decDigits_len h.1 (by omega)
  have := tl0_len (Lib.decDigits d)
  rw [bs_size]
  exact layS_len (by omega) (by omega) (by omega)
theorem str_lim {a b : Nat} (ha : a ≤ 1) (hb : b ≤ 200) : ¬ 9223372036854775807 < a + b := by omega
theorem mask_at {b M S : Nat} (hb : b < 18446744073709551616) (hM : M = 2 ^ S - 1) (hS : M < 18446744073709551616) : bits BinOp.and IntKind.u64 (b : Int) (M : Int) = ((b % 2 ^ S : Nat) : Int) := by
  rw [bits_and_u64_nat b M hb hS, hM, Nat.and_two_pow_sub_one_eq_mod]
end Go.Proofs.YtibjogbalmbeeaaGreatDoor

namespace Go.Proofs.YtibjogbalmbeeaaGreatDoor
open Go.RowKit

set_option maxRecDepth 100000 in
/-- Print of a pattern of FM. -/
theorem dprint_S (b : Nat) (hb : b < 4294967296) (w : World) (ht : Tab64 w) (h10 : Tab10 w) :
    Calls Tryz.prog 8 #[.int .i64 32, .int .u64 (b : Int)] w fun e w' => ∃ T, e = .returned (.tuple #[.string (bs T), .int .i64 0]) ∧ PrOk fmS b T ∧ Below w.heap.size w w' := by
  have HC := Lib.hid (classOf_S b hb w)
  have HMi := Lib.hid (fun W => minus_walk fmS (.inl rfl) b hb W)
  rw [fmt_S, show (2 : Nat) ^ fmS.S = 2147483648 from rfl] at HMi
  have HSh := Lib.hid (fun z h0 hz W hT => shortest_walk fmS (.inl rfl) z h0 hz W hT)
  rw [fmt_S, inf_S] at HSh
  have HT := Lib.hid ht
  have H10 := Lib.hid h10
  have HB := Lib.hid hb
  obtain ⟨sg, hsg⟩ : ∃ sg : List UInt8, (if 2147483648 ≤ b then [45] else []) = sg := ⟨_, rfl⟩
  rw [hsg] at HMi
  have hsl : (bs sg).size ≤ 1 := by rw [bs_size, ← hsg]; split <;> simp
  obtain ⟨z, hz⟩ : ∃ z, b % 2147483648 = z := ⟨_, rfl⟩
  rw [hz] at HC
  have hmk := mask_at (b := b) (M := 2147483647) (S := 31) (by omega) rfl (by omega)
  rw [show (2 : Nat) ^ 31 = 2147483648 from rfl, hz, show ((2147483647 : Nat) : Int) = 2147483647 from rfl] at hmk
  have HPr : Hid (∀ T, PrOk fmS b T ↔ ((2139095040 < z → T = [110, 97, 110]) ∧ (z = 2139095040 → T = sg ++ [105, 110, 102]) ∧ (z = 0 → T = sg ++ [48]) ∧ (z ≠ 0 → z < 2139095040 → ∃ (d : Nat) (q : Int), (ShOk fmS z d q ∧ d < 10 ^ 18 ∧ -500 ≤ q ∧ q ≤ 500) ∧ T = sg ++ layS (tl0 (Lib.decDigits d)) (q + ((Lib.decDigits d).length : Int) - ((tl0 (Lib.decDigits d)).length : Int))))) := Lib.hid fun T => by
    unfold PrOk
    rw [show (2 : Nat) ^ fmS.S = 2147483648 from rfl, hz, hsg, inf_S]
  have hcl : clsN 8388608 2139095040 z = if z = 0 then 0 else if z < 8388608 then 1 else if z < 2139095040 then 2 else if z = 2139095040 then 3 else 4 := rfl
  have HZ := Lib.hid (And.intro hz hsg)
  clear hsg hz ht h10
  by_cases h4 : 2139095040 < z
  · rw [hcl, if_neg (by omega), if_neg (by omega), if_neg (by omega), if_neg (by omega)] at HC
    have HP := Lib.hid ((HPr.out [110, 97, 110]).2 ⟨fun _ => rfl, fun h => by omega, fun h => by omega, fun _ h => by omega⟩)
    clear hcl h4 hmk hb
    go_enter Tryz.func8, Tryz.ntmps8
    go_wp2_with fail
    refine HC.out.mono ?_
    rintro e w1 ⟨rfl, hb1⟩
    go_wp2_with fail
    go_ret2
    exact ⟨[110, 97, 110], rfl, HP.out, hb1⟩
  by_cases h3 : z = 2139095040
  · rw [hcl, if_neg (by omega), if_neg (by omega), if_neg (by omega), if_pos h3] at HC
    have HP := Lib.hid ((HPr.out (sg ++ [105, 110, 102])).2 ⟨fun h => by omega, fun _ => rfl, fun h => by omega, fun _ h => by omega⟩)
    clear hcl h4 h3 hmk hb
    have hs3 : (⟨#[105, 110, 102]⟩ : ByteArray).size = 3 := rfl
    go_enter Tryz.func8, Tryz.ntmps8
    go_wp2_with fail
    refine HC.out.mono ?_
    rintro e w1 ⟨rfl, hb1⟩
    go_wp2_with fail
    refine (HMi.out w1).mono ?_
    rintro e w2 ⟨rfl, rfl⟩
    go_wp2_with fail
    go_ret2
    exact ⟨_, by rw [← bs_append]; rfl, HP.out, hb1⟩
  by_cases h0 : z = 0
  · rw [hcl, if_pos h0] at HC
    have HP := Lib.hid ((HPr.out (sg ++ [48])).2 ⟨fun h => by omega, fun h => by omega, fun _ => rfl, fun h => absurd h0 h⟩)
    clear hcl h4 h3 h0 hmk hb
    have hs3 : (⟨#[48]⟩ : ByteArray).size = 1 := rfl
    go_enter Tryz.func8, Tryz.ntmps8
    go_wp2_with fail
    refine HC.out.mono ?_
    rintro e w1 ⟨rfl, hb1⟩
    go_wp2_with fail
    refine (HMi.out w1).mono ?_
    rintro e w2 ⟨rfl, rfl⟩
    go_wp2_with fail
    go_ret2
    exact ⟨_, by rw [← bs_append]; rfl, HP.out, hb1⟩
  have HSz := Lib.hid (HSh.out z h0 (by omega))
  have hc12 : clsN 8388608 2139095040 z = 1 ∨ clsN 8388608 2139095040 z = 2 := by
    rw [hcl, if_neg h0]
    by_cases h : z < 8388608
    · exact .inl (if_pos h)
    · rw [if_neg h, if_pos (by omega)]; exact .inr rfl
  have HPs := Lib.hid (fun d q (h : ShOk fmS z d q ∧ d < 10 ^ 18 ∧ -500 ≤ q ∧ q ≤ 500) => (HPr.out (sg ++ layS (tl0 (Lib.decDigits d)) (q + ((Lib.decDigits d).length : Int) - ((tl0 (Lib.decDigits d)).length : Int)))).2 ⟨fun h => by omega, fun h => by omega, fun h => by omega, fun _ _ => ⟨d, q, h, rfl⟩⟩)
  have HMk := Lib.hid hmk
  clear hcl h4 h3 h0 hb HSh HPr hmk
  rcases hc12 with hc | hc
  all_goals
    rw [hc] at HC
    clear hc
    go_enter Tryz.func8, Tryz.ntmps8
    go_wp2_with fail
    refine HC.out.mono ?_
    rintro e w1 ⟨rfl, hb1⟩
    have HB1 := Lib.hid hb1
    have hmk := HMk.out
    clear hb1
    go_wp2_with fail
    have HBd := Lib.hid (show Below w.heap.size w w1.drew from below_chain HB1.out (below_draw' w1))
    clear HB1
    have p1 : IntKind.i64.wrap 31 = 31 := by decide
    have p2 : IntKind.u64.wrap 2147483648 = 2147483648 := by decide
    have p3 : IntKind.u64.wrap 2147483647 = 2147483647 := by decide
    go_region_held3 (fun w' => Hid (Below w.heap.size w w'))
      (first | exact HBd | exact Lib.hid (below_chain (Hid.out (by assumption)) hb4) | exact Lib.hid (below_chain (Hid.out (by assumption)) hb3) | exact (by assumption))
      (first | (go_at_call 17; refine (HMi.out _).mono ?_; rintro e w2 ⟨rfl, hw2⟩; (have h := hw2.symm); subst h; clear hw2) | (go_at_call 19; refine (HSz.out _ (HT.out.below (Hid.out (by assumption)))).mono ?_; rintro e w3 ⟨d, q, rfl, hok, hb3⟩; (have HOk := Lib.hid hok); clear hok) | (go_at_call 18; refine (lay_walk _ _ (tl0_some (sh_pos HOk.out.1)) (Nat.le_trans (tl0_len _) (Nat.le_trans (decDigits_len HOk.out.2.1 (by omega)) (by omega))) (dq_lo HOk.out.2) (dq_hi HOk.out.2) _ (H10.out.below (Hid.out (by assumption)))).mono ?_; rintro e w4 ⟨rfl, hb4⟩; (have hls := lay_size HOk.out.2); (have hl2 := str_lim hsl hls)))
    all_goals
      have HBe : Hid (Below w.heap.size w w4) := by assumption
      go_wp2_with fail
      go_ret2
      exact ⟨_, by rw [← bs_append]; rfl, HPs.out d q HOk.out, HBe.out⟩

set_option maxRecDepth 100000 in
/-- Print of a pattern of FM. -/
theorem dprint_D (b : Nat) (hb : b < 18446744073709551616) (w : World) (ht : Tab64 w) (h10 : Tab10 w) :
    Calls Tryz.prog 8 #[.int .i64 64, .int .u64 (b : Int)] w fun e w' => ∃ T, e = .returned (.tuple #[.string (bs T), .int .i64 0]) ∧ PrOk fmD b T ∧ Below w.heap.size w w' := by
  have HC := Lib.hid (classOf_D b hb w)
  have HMi := Lib.hid (fun W => minus_walk fmD (.inr rfl) b hb W)
  rw [fmt_D, show (2 : Nat) ^ fmD.S = 9223372036854775808 from rfl] at HMi
  have HSh := Lib.hid (fun z h0 hz W hT => shortest_walk fmD (.inr rfl) z h0 hz W hT)
  rw [fmt_D, inf_D] at HSh
  have HT := Lib.hid ht
  have H10 := Lib.hid h10
  have HB := Lib.hid hb
  obtain ⟨sg, hsg⟩ : ∃ sg : List UInt8, (if 9223372036854775808 ≤ b then [45] else []) = sg := ⟨_, rfl⟩
  rw [hsg] at HMi
  have hsl : (bs sg).size ≤ 1 := by rw [bs_size, ← hsg]; split <;> simp
  obtain ⟨z, hz⟩ : ∃ z, b % 9223372036854775808 = z := ⟨_, rfl⟩
  rw [hz] at HC
  have hmk := mask_at (b := b) (M := 9223372036854775807) (S := 63) (by omega) rfl (by omega)
  rw [show (2 : Nat) ^ 63 = 9223372036854775808 from rfl, hz, show ((9223372036854775807 : Nat) : Int) = 9223372036854775807 from rfl] at hmk
  have HPr : Hid (∀ T, PrOk fmD b T ↔ ((9218868437227405312 < z → T = [110, 97, 110]) ∧ (z = 9218868437227405312 → T = sg ++ [105, 110, 102]) ∧ (z = 0 → T = sg ++ [48]) ∧ (z ≠ 0 → z < 9218868437227405312 → ∃ (d : Nat) (q : Int), (ShOk fmD z d q ∧ d < 10 ^ 18 ∧ -500 ≤ q ∧ q ≤ 500) ∧ T = sg ++ layS (tl0 (Lib.decDigits d)) (q + ((Lib.decDigits d).length : Int) - ((tl0 (Lib.decDigits d)).length : Int))))) := Lib.hid fun T => by
    unfold PrOk
    rw [show (2 : Nat) ^ fmD.S = 9223372036854775808 from rfl, hz, hsg, inf_D]
  have hcl : clsN 4503599627370496 9218868437227405312 z = if z = 0 then 0 else if z < 4503599627370496 then 1 else if z < 9218868437227405312 then 2 else if z = 9218868437227405312 then 3 else 4 := rfl
  have HZ := Lib.hid (And.intro hz hsg)
  clear hsg hz ht h10
  by_cases h4 : 9218868437227405312 < z
  · rw [hcl, if_neg (by omega), if_neg (by omega), if_neg (by omega), if_neg (by omega)] at HC
    have HP := Lib.hid ((HPr.out [110, 97, 110]).2 ⟨fun _ => rfl, fun h => by omega, fun h => by omega, fun _ h => by omega⟩)
    clear hcl h4 hmk hb
    go_enter Tryz.func8, Tryz.ntmps8
    go_wp2_with fail
    refine HC.out.mono ?_
    rintro e w1 ⟨rfl, hb1⟩
    go_wp2_with fail
    go_ret2
    exact ⟨[110, 97, 110], rfl, HP.out, hb1⟩
  by_cases h3 : z = 9218868437227405312
  · rw [hcl, if_neg (by omega), if_neg (by omega), if_neg (by omega), if_pos h3] at HC
    have HP := Lib.hid ((HPr.out (sg ++ [105, 110, 102])).2 ⟨fun h => by omega, fun _ => rfl, fun h => by omega, fun _ h => by omega⟩)
    clear hcl h4 h3 hmk hb
    have hs3 : (⟨#[105, 110, 102]⟩ : ByteArray).size = 3 := rfl
    go_enter Tryz.func8, Tryz.ntmps8
    go_wp2_with fail
    refine HC.out.mono ?_
    rintro e w1 ⟨rfl, hb1⟩
    go_wp2_with fail
    refine (HMi.out w1).mono ?_
    rintro e w2 ⟨rfl, rfl⟩
    go_wp2_with fail
    go_ret2
    exact ⟨_, by rw [← bs_append]; rfl, HP.out, hb1⟩
  by_cases h0 : z = 0
  · rw [hcl, if_pos h0] at HC
    have HP := Lib.hid ((HPr.out (sg ++ [48])).2 ⟨fun h => by omega, fun h => by omega, fun _ => rfl, fun h => absurd h0 h⟩)
    clear hcl h4 h3 h0 hmk hb
    have hs3 : (⟨#[48]⟩ : ByteArray).size = 1 := rfl
    go_enter Tryz.func8, Tryz.ntmps8
    go_wp2_with fail
    refine HC.out.mono ?_
    rintro e w1 ⟨rfl, hb1⟩
    go_wp2_with fail
    refine (HMi.out w1).mono ?_
    rintro e w2 ⟨rfl, rfl⟩
    go_wp2_with fail
    go_ret2
    exact ⟨_, by rw [← bs_append]; rfl, HP.out, hb1⟩
  have HSz := Lib.hid (HSh.out z h0 (by omega))
  have hc12 : clsN 4503599627370496 9218868437227405312 z = 1 ∨ clsN 4503599627370496 9218868437227405312 z = 2 := by
    rw [hcl, if_neg h0]
    by_cases h : z < 4503599627370496
    · exact .inl (if_pos h)
    · rw [if_neg h, if_pos (by omega)]; exact .inr rfl
  have HPs := Lib.hid (fun d q (h : ShOk fmD z d q ∧ d < 10 ^ 18 ∧ -500 ≤ q ∧ q ≤ 500) => (HPr.out (sg ++ layS (tl0 (Lib.decDigits d)) (q + ((Lib.decDigits d).length : Int) - ((tl0 (Lib.decDigits d)).length : Int)))).2 ⟨fun h => by omega, fun h => by omega, fun h => by omega, fun _ _ => ⟨d, q, h, rfl⟩⟩)
  have HMk := Lib.hid hmk
  clear hcl h4 h3 h0 hb HSh HPr hmk
  rcases hc12 with hc | hc
  all_goals
    rw [hc] at HC
    clear hc
    go_enter Tryz.func8, Tryz.ntmps8
    go_wp2_with fail
    refine HC.out.mono ?_
    rintro e w1 ⟨rfl, hb1⟩
    have HB1 := Lib.hid hb1
    have hmk := HMk.out
    clear hb1
    go_wp2_with fail
    have HBd := Lib.hid (show Below w.heap.size w w1.drew from below_chain HB1.out (below_draw' w1))
    clear HB1
    have p1 : IntKind.i64.wrap 63 = 63 := by decide
    have p2 : IntKind.u64.wrap 9223372036854775808 = 9223372036854775808 := by decide
    have p3 : IntKind.u64.wrap 9223372036854775807 = 9223372036854775807 := by decide
    go_region_held3 (fun w' => Hid (Below w.heap.size w w'))
      (first | exact HBd | exact Lib.hid (below_chain (Hid.out (by assumption)) hb4) | exact Lib.hid (below_chain (Hid.out (by assumption)) hb3) | exact (by assumption))
      (first | (go_at_call 17; refine (HMi.out _).mono ?_; rintro e w2 ⟨rfl, hw2⟩; (have h := hw2.symm); subst h; clear hw2) | (go_at_call 19; refine (HSz.out _ (HT.out.below (Hid.out (by assumption)))).mono ?_; rintro e w3 ⟨d, q, rfl, hok, hb3⟩; (have HOk := Lib.hid hok); clear hok) | (go_at_call 18; refine (lay_walk _ _ (tl0_some (sh_pos HOk.out.1)) (Nat.le_trans (tl0_len _) (Nat.le_trans (decDigits_len HOk.out.2.1 (by omega)) (by omega))) (dq_lo HOk.out.2) (dq_hi HOk.out.2) _ (H10.out.below (Hid.out (by assumption)))).mono ?_; rintro e w4 ⟨rfl, hb4⟩; (have hls := lay_size HOk.out.2); (have hl2 := str_lim hsl hls)))
    all_goals
      have HBe : Hid (Below w.heap.size w w4) := by assumption
      go_wp2_with fail
      go_ret2
      exact ⟨_, by rw [← bs_append]; rfl, HPs.out d q HOk.out, HBe.out⟩
end Go.Proofs.YtibjogbalmbeeaaGreatDoor

namespace Go.Proofs.YtibjogbalmbeeaaGreatDoor
open Go.RowKit

theorem uf_down {f : Fm} {V : Nat} {t q : Int} (h : ufF f t ≤ V * ufG t) (hq : q ≤ t) : ufF f q ≤ V * ufG q := by
  have e := uf_shift f q (t - q).toNat
  rw [show q + (((t - q).toNat : Nat) : Int) = t by omega] at e
  have hT := ufG_pos t
  have k1 : ufF f t * ufG q ≤ V * ufG t * ufG q := Nat.mul_le_mul_right _ h
  rw [e] at k1
  refine Nat.le_of_mul_le_mul_right (c := ufG t) ?_ hT
  calc ufF f q * ufG t ≤ 10 ^ (t - q).toNat * ufF f q * ufG t := Nat.mul_le_mul_right _ (Nat.le_mul_of_pos_left _ (Nat.pow_pos (by omega)))
    _ ≤ _ := k1
    _ = _ := by ac_rfl
theorem ten_unique {f : Fm} {V : Nat} {t s : Int} (ht : ufF f t ≤ V * ufG t ∧ V * ufG (t + 1) < ufF f (t + 1)) (hs : ufF f s ≤ V * ufG s ∧ V * ufG (s + 1) < ufF f (s + 1)) : t = s := by
  rcases Int.lt_trichotomy t s with h | h | h
  · have := uf_down hs.1 (show t + 1 ≤ s by omega)
    omega
  · exact h
  · have := uf_down ht.1 (show s + 1 ≤ t by omega)
    omega
/-- One digit is enough: then it is what is found. -/
theorem sh_one {f : Fm} {z d d0 : Nat} {q t0 : Int} (h : ShOk f z d q) (ht : ufF f t0 ≤ 2 * vP f z * ufG t0 ∧ 2 * vP f z * ufG (t0 + 1) < ufF f (t0 + 1)) (hd : shD f z t0 = some d0) : d = d0 ∧ q = t0 := by
  obtain ⟨t, n, h1, hn1, _, hq, hd', hno⟩ := h
  have e := ten_unique h1 ht
  subst e
  have hn : n = 1 := by
    refine Classical.byContradiction fun hn => ?_
    have := hno 1 (by omega) (by omega)
    rw [show t - ((1 : Nat) : Int) + 1 = t by omega, hd] at this
    exact absurd this (by simp)
  subst hn
  rw [show t - ((1 : Nat) : Int) + 1 = t by omega] at hq
  subst hq
  rw [hd] at hd'
  injection hd' with hd'
  exact ⟨hd'.symm, rfl⟩
end Go.Proofs.YtibjogbalmbeeaaGreatDoor

namespace Go.Proofs.YtibjogbalmbeeaaGreatDoor
open Go.RowKit

end Go.Proofs.YtibjogbalmbeeaaGreatDoor

namespace Go.Proofs.YtibjogbalmbeeaaGreatDoor
open Go.RowKit

/-- Print of whatever pattern. -/
theorem dprint_any (f : Fm) (hf : f.ok) (b : Nat) (hb : b < 2 ^ (f.S + 1)) (w : World) (ht : Tab64 w) (h10 : Tab10 w) :
    Calls Tryz.prog 8 #[.int .i64 (fmt f), .int .u64 (b : Int)] w fun e w' => ∃ T, e = .returned (.tuple #[.string (bs T), .int .i64 0]) ∧ PrOk f b T ∧ Below w.heap.size w w' := by
  rcases hf with h | h <;> subst h
  · exact dprint_S b hb w ht h10
  · exact dprint_D b hb w ht h10
end Go.Proofs.YtibjogbalmbeeaaGreatDoor

namespace Go.Proofs.YtibjogbalmbeeaaGreatDoor
open Go.RowKit

end Go.Proofs.YtibjogbalmbeeaaGreatDoor

namespace Go.Proofs.YtibjogbalmbeeaaGreatDoor
open Go.RowKit

/-- What the reader gives up with. -/
def faultAt (i : Int) : PanicEntry := { v := .iface 281 (.agg #[.int .i64 i]), recovered := false }

end Go.Proofs.YtibjogbalmbeeaaGreatDoor

namespace Go.Proofs.YtibjogbalmbeeaaGreatDoor
open Go.RowKit

end Go.Proofs.YtibjogbalmbeeaaGreatDoor

namespace Go.Proofs.YtibjogbalmbeeaaGreatDoor
open Go.RowKit

end Go.Proofs.YtibjogbalmbeeaaGreatDoor

namespace Go.Proofs.YtibjogbalmbeeaaGreatDoor
open Go.RowKit

end Go.Proofs.YtibjogbalmbeeaaGreatDoor

namespace Go.Proofs.YtibjogbalmbeeaaGreatDoor
open Go.RowKit

/-- The digits from j on, those on both sides of a point; how many stand behind the point; where they end. -/
def hgD (s : ByteArray) (j : Nat) : ByteArray := if hxE s j < s.size ∧ by8 s (hxE s j) = 46 then s.extract j (hxE s j) ++ s.extract (hxE s j + 1) (hxE s (hxE s j + 1)) else s.extract j (hxE s j)
def dgB (s : ByteArray) (j : Nat) : Nat := if hxE s j < s.size ∧ by8 s (hxE s j) = 46 then (s.extract (hxE s j + 1) (hxE s (hxE s j + 1))).size else 0
def dgE (s : ByteArray) (j : Nat) : Nat := if hxE s j < s.size ∧ by8 s (hxE s j) = 46 then hxE s (hxE s j + 1) else hxE s j
/-- The number of these digits. -/
def hgV (s : ByteArray) (j : Nat) : Nat := hv (by8 (hgD s j)) (hgD s j).size (hgD s j).size
/-- The exponent from q on, the sign told. -/
def hgX (s : ByteArray) (neg : Bool) (q : Nat) : Int := if neg then -((dv s q (dcE s q - q) : Nat) : Int) else ((dv s q (dcE s q - q) : Nat) : Int)
/-- The number that stands from i on: mantissa, exponent, where it ends. -/
def numOf (s : ByteArray) (i : Nat) : Option (Nat × Int × Nat) :=
  if ¬ (i < s.size ∧ by8 s i = 48) then none else
  if ¬ (i + 1 < s.size ∧ (by8 s (i + 1) = 120 ∨ by8 s (i + 1) = 88)) then none else
  if (hgD s (i + 2)).size = 0 then none else
  if ¬ (dgE s (i + 2) < s.size ∧ (by8 s (dgE s (i + 2)) = 112 ∨ by8 s (dgE s (i + 2)) = 80)) then none else
  if ¬ (sgI s (dgE s (i + 2) + 1) < s.size ∧ isDec (by8 s (sgI s (dgE s (i + 2) + 1))) = true) then none else
  some (hgV s (i + 2), hgX s (sgB s (dgE s (i + 2) + 1)) (sgI s (dgE s (i + 2) + 1)) - 4 * dgB s (i + 2), dcE s (sgI s (dgE s (i + 2) + 1)))
/-- What number comes to. -/
def NumPost (b : Nat) (s : ByteArray) (i : Nat) (w : World) (e : Ending) (w' : World) : Prop :=
  (∃ a x k v, numOf s i = some (a, x, k) ∧ e = .returned (.tuple #[v, .int .i64 x]) ∧ NatAt w' v a ∧ Box2 w' b (.string s) (.int .i64 ((k : Nat) : Int)) ∧ Below b w w') ∨
  (numOf s i = none ∧ (∃ j, e = .panicked [faultAt j]) ∧ Below b w w')
theorem NumPost.no {b : Nat} {s : ByteArray} {i : Nat} {w w' : World} (h : numOf s i = none) (j : Int) (hb : Below b w w') : NumPost b s i w (.panicked [faultAt j]) w' := .inr ⟨h, ⟨j, rfl⟩, hb⟩
end Go.Proofs.YtibjogbalmbeeaaGreatDoor

namespace Go.Proofs.YtibjogbalmbeeaaGreatDoor
open Go.RowKit

end Go.Proofs.YtibjogbalmbeeaaGreatDoor

namespace Go.Proofs.YtibjogbalmbeeaaGreatDoor
open Go.RowKit

end Go.Proofs.YtibjogbalmbeeaaGreatDoor

namespace Go.Proofs.YtibjogbalmbeeaaGreatDoor
open Go.RowKit

end Go.Proofs.YtibjogbalmbeeaaGreatDoor

namespace Go.Proofs.YtibjogbalmbeeaaGreatDoor
open Go.RowKit

end Go.Proofs.YtibjogbalmbeeaaGreatDoor

namespace Go.Proofs.YtibjogbalmbeeaaGreatDoor
open Go.RowKit
end Go.Proofs.YtibjogbalmbeeaaGreatDoor

namespace Go.Proofs.YtibjogbalmbeeaaGreatDoor
open Go.RowKit

/-- The end of the array of 65 bytes spells t. -/
def Row65 (W : World) (N : Nat) (t : List UInt8) : Prop :=
  (∀ j (_ : j < t.length), W.cell? ⟨N, 65 - t.length + j, none⟩ = some (.int .u8 ((t.getD j 0).toNat : Int))) ∧
  (∀ j, j < 65 → ∃ x, W.cell? ⟨N, j, none⟩ = some (.int .u8 x)) ∧ (∀ j, j < 65 → W.frozen? ⟨N, j, none⟩ = false)
theorem zeros65_at (j : Nat) (h : j < 65) : Tryz.zeroCells194[j]? = some (.int .u8 0) := by
  have e : Tryz.zeroCells194 = Array.replicate 65 (.int .u8 0) := by kernel_rfl
  rw [e]; simp [h]
theorem Row65.new (w : World) : Row65 (w.alloc (.cells Tryz.zeroCells194 194)) w.heap.size [] :=
  ⟨fun j h => absurd h (by simp), fun j h => ⟨0, by rw [World.cell?_alloc_new]; exact zeros65_at j h⟩, fun j _ => World.frozen?_alloc_new _ _ _ _⟩
theorem Row65.put {W : World} {N : Nat} {t : List UInt8} (h : Row65 W N t) {p : Nat} (hp : p + 1 + t.length = 65) (c : UInt8) : Row65 (W.setCell ⟨N, p, none⟩ (.int .u8 (c.toNat : Int))) N (c :: t) := by
  obtain ⟨h1, h2, h3⟩ := h
  have hs : ∀ j, j < 65 → (W.setCell ⟨N, p, none⟩ (.int .u8 (c.toNat : Int))).cell? ⟨N, j, none⟩ = if j = p then some (.int .u8 (c.toNat : Int)) else W.cell? ⟨N, j, none⟩ := fun j hj => by
    split
    · rename_i e; subst e
      obtain ⟨x, hx⟩ := h2 j hj
      exact World.cell?_setCell_same' _ _ _ (by rw [hx]; rfl)
    · rename_i hne
      exact cell_other (fun e => hne (by have := congrArg Addr.off e; exact this.symm))
  refine ⟨fun j hj => ?_, fun j hj => ?_, fun j hj => ?_⟩
  · simp only [List.length_cons] at hj ⊢
    rw [hs _ (by omega)]
    cases j with
    | zero => rw [if_pos (by omega)]; simp
    | succ j =>
      rw [if_neg (by omega), show 65 - (t.length + 1) + (j + 1) = 65 - t.length + j by omega, h1 j (by omega)]
      simp
  · rw [hs j hj]; split
    · exact ⟨_, rfl⟩
    · exact h2 j hj
  · have := h3 j hj
    simpa [World.frozen?_setCell] using this
end Go.Proofs.YtibjogbalmbeeaaGreatDoor

namespace Go.Proofs.YtibjogbalmbeeaaGreatDoor
open Go.RowKit Go.Sort

end Go.Proofs.YtibjogbalmbeeaaGreatDoor

namespace Go.Proofs.YtibjogbalmbeeaaGreatDoor
open Go.RowKit Go.Sort

end Go.Proofs.YtibjogbalmbeeaaGreatDoor

namespace Go.Proofs.YtibjogbalmbeeaaGreatDoor

end Go.Proofs.YtibjogbalmbeeaaGreatDoor

namespace Go.Proofs.YtibjogbalmbeeaaGreatDoor

end Go.Proofs.YtibjogbalmbeeaaGreatDoor

namespace Go.Proofs.YtibjogbalmbeeaaGreatDoor
open Go.RowKit Go.Sort
end Go.Proofs.YtibjogbalmbeeaaGreatDoor

namespace Go.Proofs.YtibjogbalmbeeaaGreatDoor
open Go.RowKit

theorem not_blank {s : ByteArray} {i : Nat} (h : (cutK s i).1 ≠ 4) : ovr pBln s i = i := by
  refine ovr_stop fun hl => ?_
  rw [Bool.eq_false_iff]
  intro hb
  refine h ?_
  unfold pBln at hb
  rw [Bool.or_eq_true, beq_iff_eq, beq_iff_eq] at hb
  unfold cutK
  rw [if_neg (by omega)]
  rcases hb with e | e <;> rw [e] <;> rfl
/-- The unsigned text of a number: behind whatever it is one piece, to the text's end. -/
def NumU (dec : Bool) (U : List UInt8) : Prop := (∀ A, cutK (bs (A ++ U)) A.length = (2, (bs (A ++ U)).size)) ∧ Lib.hasPrefix U [48, 120] = !dec ∧ U ≠ []
/-- U spells the pattern z, a size: inf, or a number that is read so. -/
def SpU (z : Nat) (U : List UInt8) : Prop := (z = 9218868437227405312 ∧ U = [105, 110, 102]) ∨ ∃ dec : Bool, NumU dec U ∧
  ∀ W, Tab64 W → Calls Tryz.prog (if dec then 201 else 202) #[.int .i64 64, .string (bs U)] W fun e w' => e = .returned (.tuple #[.int .u64 (z : Int), .int .i64 0]) ∧ Below W.heap.size W w'
/-- T spells the pattern b. -/
def SpT (b : Nat) (T : List UInt8) : Prop := T.length ≤ 300 ∧
  ((9218868437227405312 < b % 9223372036854775808 ∧ T = [110, 97, 110]) ∨ (b % 9223372036854775808 ≤ 9218868437227405312 ∧ ∃ U, T = (if 9223372036854775808 ≤ b then [45] else []) ++ U ∧ SpU (b % 9223372036854775808) U))
/-- The pattern that the text of a pattern is read as. -/
def wantD (b : Nat) : Nat := if 9218868437227405312 < b % 9223372036854775808 then 9221120237041090561 else b
end Go.Proofs.YtibjogbalmbeeaaGreatDoor

namespace Go.Proofs.YtibjogbalmbeeaaGreatDoor
open Go.RowKit

end Go.Proofs.YtibjogbalmbeeaaGreatDoor
