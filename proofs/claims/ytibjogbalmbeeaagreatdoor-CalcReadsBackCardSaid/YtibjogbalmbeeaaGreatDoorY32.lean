/- Facts for decimal: Print. · Walk of decimal: Print. · What wakes the laws: 0.1, plain. · Walk of the law's helpers: format, sign. · Walk of the law's awake. · The law Back, plain: what Print answers is read back. -/
import Derived.Test.YtibjogbalmbeeaaGreatDoorY29
import Derived.Test.YtibjogbalmbeeaaGreatDoorY31
import Derived.Test.YtibjogbalmbeeaaGreatDoorY17
import Derived.Test.YtibjogbalmbeeaaGreatDoorY23
import Derived.Test.YtibjogbalmbeeaaGreatDoorY30

namespace Go.Proofs.YtibjogbalmbeeaaGreatDoor
open Go.RowKit

/-- What Print answers. -/
def PrOk (f : Fm) (b : Nat) (T : List UInt8) : Prop :=
  (f.inf < b % 2 ^ f.S → T = [110, 97, 110]) ∧ (b % 2 ^ f.S = f.inf → T = (if 2 ^ f.S ≤ b then [45] else []) ++ [105, 110, 102]) ∧ (b % 2 ^ f.S = 0 → T = (if 2 ^ f.S ≤ b then [45] else []) ++ [48]) ∧
  (b % 2 ^ f.S ≠ 0 → b % 2 ^ f.S < f.inf → ∃ (d : Nat) (q : Int), (ShOk f (b % 2 ^ f.S) d q ∧ d < 10 ^ 18 ∧ -500 ≤ q ∧ q ≤ 500) ∧ T = (if 2 ^ f.S ≤ b then [45] else []) ++ layS (tl0 (Lib.decDigits d)) (q + ((Lib.decDigits d).length : Int) - ((tl0 (Lib.decDigits d)).length : Int)))
/-- What is found is not nought. -/
theorem sh_pos {f : Fm} {z d : Nat} {q : Int} (h : ShOk f z d q) : d ≠ 0 := by
  obtain ⟨t, n, ⟨h1, _⟩, hn1, _, hq, hd, _⟩ := h
  have e := uf_shift f q (n - 1)
  rw [show q + ((n - 1 : Nat) : Int) = t by omega] at e
  have hG := ufG_pos q
  have hT := ufG_pos t
  have k1 : ufF f t * ufG q ≤ 2 * vP f z * ufG t * ufG q := Nat.mul_le_mul_right _ h1
  rw [e] at k1
  have k2 : ufF f q ≤ 2 * vP f z * ufG q := by
    refine Nat.le_of_mul_le_mul_right (c := ufG t) ?_ hT
    calc ufF f q * ufG t ≤ 10 ^ (n - 1) * ufF f q * ufG t := Nat.mul_le_mul_right _ (Nat.le_mul_of_pos_left _ (Nat.pow_pos (by omega)))
      _ ≤ _ := k1
      _ = _ := by ac_rfl
  have k3 : 1 ≤ shL f z q := Nat.div_pos k2 (ufF_pos f q)
  unfold shD at hd
  split at hd
  · injection hd with hd
    subst hd
    split <;> omega
  · split at hd
    · injection hd with hd
      omega
    · split at hd
      · injection hd with hd
        omega
      · exact absurd hd (by simp)
theorem tl0_len (l : List UInt8) : (tl0 l).length ≤ l.length := by
  unfold tl0 Lib.trimRightB
  rw [List.length_reverse]
  have := (List.dropWhile_sublist (l := l.reverse) (· == 48)).length_le
  rwa [List.length_reverse] at this
theorem drop_some (c : UInt8) (hc : c ≠ 48) : ∀ l : List UInt8, c ∈ l → 1 ≤ (l.dropWhile (· == 48)).length
  | [], h => absurd h (by simp)
  | a :: l, h => by
    rw [List.dropWhile_cons]
    split
    · rename_i ha
      refine drop_some c hc l ?_
      rcases List.mem_cons.1 h with e | e
      · exact absurd (by rw [e]; exact beq_iff_eq.1 ha) hc
      · exact e
    · simp
theorem tl0_some {d : Nat} (hd : d ≠ 0) : 1 ≤ (tl0 (Lib.decDigits d)).length := by
  obtain ⟨c, t, e, hc⟩ := (dcV_digits d).2.2.1 hd
  unfold tl0 Lib.trimRightB
  rw [List.length_reverse]
  exact drop_some c hc _ (by rw [e]; simp)
theorem layS_len {D : List UInt8} {q : Int} (h1 : D.length ≤ 18) (q1 : -1000 ≤ q) (q2 : q ≤ 1000) : (layS D q).length ≤ 200 := by
  unfold layS
  split
  · rw [List.length_append, List.length_replicate]; omega
  · split
    · simp only [List.length_append, List.length_take, List.length_drop, List.length_cons, List.length_nil]; omega
    · split
      · simp only [List.length_append, List.length_replicate, List.length_cons, List.length_nil]; omega
      · have h5 := itoa_len ((D.length : Int) + q - 1) (by omega) (by omega)
        have h6 : (ptd D).length ≤ 40 := by
          unfold ptd
          split
          · omega
          · simp only [List.length_append, List.length_take, List.length_drop, List.length_cons, List.length_nil]; omega
        simp only [List.length_append, List.length_cons, List.length_nil]; omega
theorem dq_lo {d : Nat} {q : Int} (h : d < 10 ^ 18 ∧ -500 ≤ q ∧ q ≤ 500) : -2000 ≤ q + ((Lib.decDigits d).length : Int) - ((tl0 (Lib.decDigits d)).length : Int) := by
  have := decDigits_len h.1 (by omega)
  have := tl0_len (Lib.decDigits d)
  omega
theorem dq_hi {d : Nat} {q : Int} (h : d < 10 ^ 18 ∧ -500 ≤ q ∧ q ≤ 500) : q + ((Lib.decDigits d).length : Int) - ((tl0 (Lib.decDigits d)).length : Int) ≤ 2000 := by
  have := decDigits_len h.1 (by omega)
  have := tl0_len (Lib.decDigits d)
  omega
theorem lay_size {d : Nat} {q : Int} (h : d < 10 ^ 18 ∧ -500 ≤ q ∧ q ≤ 500) : (bs (layS (tl0 (Lib.decDigits d)) (q + ((Lib.decDigits d).length : Int) - ((tl0 (Lib.decDigits d)).length : Int)))).size ≤ 200 := by
  have := decDigits_len h.1 (by omega)
  have := tl0_len (Lib.decDigits d)
  rw [bs_size]
  exact layS_len (by omega) (by omega) (by omega)
theorem str_lim {a b : Nat} (ha : a ≤ 1) (hb : b ≤ 200) : ¬ 9223372036854775807 < a + b := by omega
theorem mask_at {b M S : Nat} (hb : b < 18446744073709551616) (hM : M = 2 ^ S - 1) (hS : M < 18446744073709551616) : bits BinOp.and IntKind.u64 (b : Int) (M : Int) = ((b % 2 ^ S : Nat) : Int) := by
  rw [bits_and_u64_nat b M hb hS, hM, Nat.and_two_pow_sub_one_eq_mod]
end Go.Proofs.YtibjogbalmbeeaaGreatDoor

namespace Go.Proofs.YtibjogbalmbeeaaGreatDoor
open Go.RowKit

set_option maxRecDepth 100000 in
/-- Print of a pattern of FM. -/
theorem dprint_S (b : Nat) (hb : b < 4294967296) (w : World) (ht : Tab64 w) (h10 : Tab10 w) :
    Calls Tryz.prog 8 #[.int .i64 32, .int .u64 (b : Int)] w fun e w' => ∃ T, e = .returned (.tuple #[.string (bs T), .int .i64 0]) ∧ PrOk fmS b T ∧ Below w.heap.size w w' := by
  have HC := Lib.hid (classOf_S b hb w)
  have HMi := Lib.hid (fun W => minus_walk fmS (.inl rfl) b hb W)
  rw [fmt_S, show (2 : Nat) ^ fmS.S = 2147483648 from rfl] at HMi
  have HSh := Lib.hid (fun z h0 hz W hT => shortest_walk fmS (.inl rfl) z h0 hz W hT)
  rw [fmt_S, inf_S] at HSh
  have HT := Lib.hid ht
  have H10 := Lib.hid h10
  have HB := Lib.hid hb
  obtain ⟨sg, hsg⟩ : ∃ sg : List UInt8, (if 2147483648 ≤ b then [45] else []) = sg := ⟨_, rfl⟩
  rw [hsg] at HMi
  have hsl : (bs sg).size ≤ 1 := by rw [bs_size, ← hsg]; split <;> simp
  obtain ⟨z, hz⟩ : ∃ z, b % 2147483648 = z := ⟨_, rfl⟩
  rw [hz] at HC
  have hmk := mask_at (b := b) (M := 2147483647) (S := 31) (by omega) rfl (by omega)
  rw [show (2 : Nat) ^ 31 = 2147483648 from rfl, hz, show ((2147483647 : Nat) : Int) = 2147483647 from rfl] at hmk
  have HPr : Hid (∀ T, PrOk fmS b T ↔ ((2139095040 < z → T = [110, 97, 110]) ∧ (z = 2139095040 → T = sg ++ [105, 110, 102]) ∧ (z = 0 → T = sg ++ [48]) ∧ (z ≠ 0 → z < 2139095040 → ∃ (d : Nat) (q : Int), (ShOk fmS z d q ∧ d < 10 ^ 18 ∧ -500 ≤ q ∧ q ≤ 500) ∧ T = sg ++ layS (tl0 (Lib.decDigits d)) (q + ((Lib.decDigits d).length : Int) - ((tl0 (Lib.decDigits d)).length : Int))))) := Lib.hid fun T => by
    unfold PrOk
    rw [show (2 : Nat) ^ fmS.S = 2147483648 from rfl, hz, hsg, inf_S]
  have hcl : clsN 8388608 2139095040 z = if z = 0 then 0 else if z < 8388608 then 1 else if z < 2139095040 then 2 else if z = 2139095040 then 3 else 4 := rfl
  have HZ := Lib.hid (And.intro hz hsg)
  clear hsg hz ht h10
  by_cases h4 : 2139095040 < z
  · rw [hcl, if_neg (by omega), if_neg (by omega), if_neg (by omega), if_neg (by omega)] at HC
    have HP := Lib.hid ((HPr.out [110, 97, 110]).2 ⟨fun _ => rfl, fun h => by omega, fun h => by omega, fun _ h => by omega⟩)
    clear hcl h4 hmk hb
    go_enter Tryz.func8, Tryz.ntmps8
    go_wp2_with fail
    refine HC.out.mono ?_
    rintro e w1 ⟨rfl, hb1⟩
    go_wp2_with fail
    go_ret2
    exact ⟨[110, 97, 110], rfl, HP.out, hb1⟩
  by_cases h3 : z = 2139095040
  · rw [hcl, if_neg (by omega), if_neg (by omega), if_neg (by omega), if_pos h3] at HC
    have HP := Lib.hid ((HPr.out (sg ++ [105, 110, 102])).2 ⟨fun h => by omega, fun _ => rfl, fun h => by omega, fun _ h => by omega⟩)
    clear hcl h4 h3 hmk hb
    have hs3 : (⟨#[105, 110, 102]⟩ : ByteArray).size = 3 := rfl
    go_enter Tryz.func8, Tryz.ntmps8
    go_wp2_with fail
    refine HC.out.mono ?_
    rintro e w1 ⟨rfl, hb1⟩
    go_wp2_with fail
    refine (HMi.out w1).mono ?_
    rintro e w2 ⟨rfl, rfl⟩
    go_wp2_with fail
    go_ret2
    exact ⟨_, by rw [← bs_append]; rfl, HP.out, hb1⟩
  by_cases h0 : z = 0
  · rw [hcl, if_pos h0] at HC
    have HP := Lib.hid ((HPr.out (sg ++ [48])).2 ⟨fun h => by omega, fun h => by omega, fun _ => rfl, fun h => absurd h0 h⟩)
    clear hcl h4 h3 h0 hmk hb
    have hs3 : (⟨#[48]⟩ : ByteArray).size = 1 := rfl
    go_enter Tryz.func8, Tryz.ntmps8
    go_wp2_with fail
    refine HC.out.mono ?_
    rintro e w1 ⟨rfl, hb1⟩
    go_wp2_with fail
    refine (HMi.out w1).mono ?_
    rintro e w2 ⟨rfl, rfl⟩
    go_wp2_with fail
    go_ret2
    exact ⟨_, by rw [← bs_append]; rfl, HP.out, hb1⟩
  have HSz := Lib.hid (HSh.out z h0 (by omega))
  have hc12 : clsN 8388608 2139095040 z = 1 ∨ clsN 8388608 2139095040 z = 2 := by
    rw [hcl, if_neg h0]
    by_cases h : z < 8388608
    · exact .inl (if_pos h)
    · rw [if_neg h, if_pos (by omega)]; exact .inr rfl
  have HPs := Lib.hid (fun d q (h : ShOk fmS z d q ∧ d < 10 ^ 18 ∧ -500 ≤ q ∧ q ≤ 500) => (HPr.out (sg ++ layS (tl0 (Lib.decDigits d)) (q + ((Lib.decDigits d).length : Int) - ((tl0 (Lib.decDigits d)).length : Int)))).2 ⟨fun h => by omega, fun h => by omega, fun h => by omega, fun _ _ => ⟨d, q, h, rfl⟩⟩)
  have HMk := Lib.hid hmk
  clear hcl h4 h3 h0 hb HSh HPr hmk
  rcases hc12 with hc | hc
  all_goals
    rw [hc] at HC
    clear hc
    go_enter Tryz.func8, Tryz.ntmps8
    go_wp2_with fail
    refine HC.out.mono ?_
    rintro e w1 ⟨rfl, hb1⟩
    have HB1 := Lib.hid hb1
    have hmk := HMk.out
    clear hb1
    go_wp2_with fail
    have HBd := Lib.hid (show Below w.heap.size w w1.drew from below_chain HB1.out (below_draw' w1))
    clear HB1
    have p1 : IntKind.i64.wrap 31 = 31 := by decide
    have p2 : IntKind.u64.wrap 2147483648 = 2147483648 := by decide
    have p3 : IntKind.u64.wrap 2147483647 = 2147483647 := by decide
    go_region_held3 (fun w' => Hid (Below w.heap.size w w'))
      (first | exact HBd | exact Lib.hid (below_chain (Hid.out (by assumption)) hb4) | exact Lib.hid (below_chain (Hid.out (by assumption)) hb3) | exact (by assumption))
      (first | (go_at_call 17; refine (HMi.out _).mono ?_; rintro e w2 ⟨rfl, hw2⟩; (have h := hw2.symm); subst h; clear hw2) | (go_at_call 19; refine (HSz.out _ (HT.out.below (Hid.out (by assumption)))).mono ?_; rintro e w3 ⟨d, q, rfl, hok, hb3⟩; (have HOk := Lib.hid hok); clear hok) | (go_at_call 18; refine (lay_walk _ _ (tl0_some (sh_pos HOk.out.1)) (Nat.le_trans (tl0_len _) (Nat.le_trans (decDigits_len HOk.out.2.1 (by omega)) (by omega))) (dq_lo HOk.out.2) (dq_hi HOk.out.2) _ (H10.out.below (Hid.out (by assumption)))).mono ?_; rintro e w4 ⟨rfl, hb4⟩; (have hls := lay_size HOk.out.2); (have hl2 := str_lim hsl hls)))
    all_goals
      have HBe : Hid (Below w.heap.size w w4) := by assumption
      go_wp2_with fail
      go_ret2
      exact ⟨_, by rw [← bs_append]; rfl, HPs.out d q HOk.out, HBe.out⟩

set_option maxRecDepth 100000 in
/-- Print of a pattern of FM. -/
theorem dprint_D (b : Nat) (hb : b < 18446744073709551616) (w : World) (ht : Tab64 w) (h10 : Tab10 w) :
    Calls Tryz.prog 8 #[.int .i64 64, .int .u64 (b : Int)] w fun e w' => ∃ T, e = .returned (.tuple #[.string (bs T), .int .i64 0]) ∧ PrOk fmD b T ∧ Below w.heap.size w w' := by
  have HC := Lib.hid (classOf_D b hb w)
  have HMi := Lib.hid (fun W => minus_walk fmD (.inr rfl) b hb W)
  rw [fmt_D, show (2 : Nat) ^ fmD.S = 9223372036854775808 from rfl] at HMi
  have HSh := Lib.hid (fun z h0 hz W hT => shortest_walk fmD (.inr rfl) z h0 hz W hT)
  rw [fmt_D, inf_D] at HSh
  have HT := Lib.hid ht
  have H10 := Lib.hid h10
  have HB := Lib.hid hb
  obtain ⟨sg, hsg⟩ : ∃ sg : List UInt8, (if 9223372036854775808 ≤ b then [45] else []) = sg := ⟨_, rfl⟩
  rw [hsg] at HMi
  have hsl : (bs sg).size ≤ 1 := by rw [bs_size, ← hsg]; split <;> simp
  obtain ⟨z, hz⟩ : ∃ z, b % 9223372036854775808 = z := ⟨_, rfl⟩
  rw [hz] at HC
  have hmk := mask_at (b := b) (M := 9223372036854775807) (S := 63) (by omega) rfl (by omega)
  rw [show (2 : Nat) ^ 63 = 9223372036854775808 from rfl, hz, show ((9223372036854775807 : Nat) : Int) = 9223372036854775807 from rfl] at hmk
  have HPr : Hid (∀ T, PrOk fmD b T ↔ ((9218868437227405312 < z → T = [110, 97, 110]) ∧ (z = 9218868437227405312 → T = sg ++ [105, 110, 102]) ∧ (z = 0 → T = sg ++ [48]) ∧ (z ≠ 0 → z < 9218868437227405312 → ∃ (d : Nat) (q : Int), (ShOk fmD z d q ∧ d < 10 ^ 18 ∧ -500 ≤ q ∧ q ≤ 500) ∧ T = sg ++ layS (tl0 (Lib.decDigits d)) (q + ((Lib.decDigits d).length : Int) - ((tl0 (Lib.decDigits d)).length : Int))))) := Lib.hid fun T => by
    unfold PrOk
    rw [show (2 : Nat) ^ fmD.S = 9223372036854775808 from rfl, hz, hsg, inf_D]
  have hcl : clsN 4503599627370496 9218868437227405312 z = if z = 0 then 0 else if z < 4503599627370496 then 1 else if z < 9218868437227405312 then 2 else if z = 9218868437227405312 then 3 else 4 := rfl
  have HZ := Lib.hid (And.intro hz hsg)
  clear hsg hz ht h10
  by_cases h4 : 9218868437227405312 < z
  · rw [hcl, if_neg (by omega), if_neg (by omega), if_neg (by omega), if_neg (by omega)] at HC
    have HP := Lib.hid ((HPr.out [110, 97, 110]).2 ⟨fun _ => rfl, fun h => by omega, fun h => by omega, fun _ h => by omega⟩)
    clear hcl h4 hmk hb
    go_enter Tryz.func8, Tryz.ntmps8
    go_wp2_with fail
    refine HC.out.mono ?_
    rintro e w1 ⟨rfl, hb1⟩
    go_wp2_with fail
    go_ret2
    exact ⟨[110, 97, 110], rfl, HP.out, hb1⟩
  by_cases h3 : z = 9218868437227405312
  · rw [hcl, if_neg (by omega), if_neg (by omega), if_neg (by omega), if_pos h3] at HC
    have HP := Lib.hid ((HPr.out (sg ++ [105, 110, 102])).2 ⟨fun h => by omega, fun _ => rfl, fun h => by omega, fun _ h => by omega⟩)
    clear hcl h4 h3 hmk hb
    have hs3 : (⟨#[105, 110, 102]⟩ : ByteArray).size = 3 := rfl
    go_enter Tryz.func8, Tryz.ntmps8
    go_wp2_with fail
    refine HC.out.mono ?_
    rintro e w1 ⟨rfl, hb1⟩
    go_wp2_with fail
    refine (HMi.out w1).mono ?_
    rintro e w2 ⟨rfl, rfl⟩
    go_wp2_with fail
    go_ret2
    exact ⟨_, by rw [← bs_append]; rfl, HP.out, hb1⟩
  by_cases h0 : z = 0
  · rw [hcl, if_pos h0] at HC
    have HP := Lib.hid ((HPr.out (sg ++ [48])).2 ⟨fun h => by omega, fun h => by omega, fun _ => rfl, fun h => absurd h0 h⟩)
    clear hcl h4 h3 h0 hmk hb
    have hs3 : (⟨#[48]⟩ : ByteArray).size = 1 := rfl
    go_enter Tryz.func8, Tryz.ntmps8
    go_wp2_with fail
    refine HC.out.mono ?_
    rintro e w1 ⟨rfl, hb1⟩
    go_wp2_with fail
    refine (HMi.out w1).mono ?_
    rintro e w2 ⟨rfl, rfl⟩
    go_wp2_with fail
    go_ret2
    exact ⟨_, by rw [← bs_append]; rfl, HP.out, hb1⟩
  have HSz := Lib.hid (HSh.out z h0 (by omega))
  have hc12 : clsN 4503599627370496 9218868437227405312 z = 1 ∨ clsN 4503599627370496 9218868437227405312 z = 2 := by
    rw [hcl, if_neg h0]
    by_cases h : z < 4503599627370496
    · exact .inl (if_pos h)
    · rw [if_neg h, if_pos (by omega)]; exact .inr rfl
  have HPs := Lib.hid (fun d q (h : ShOk fmD z d q ∧ d < 10 ^ 18 ∧ -500 ≤ q ∧ q ≤ 500) => (HPr.out (sg ++ layS (tl0 (Lib.decDigits d)) (q + ((Lib.decDigits d).length : Int) - ((tl0 (Lib.decDigits d)).length : Int)))).2 ⟨fun h => by omega, fun h => by omega, fun h => by omega, fun _ _ => ⟨d, q, h, rfl⟩⟩)
  have HMk := Lib.hid hmk
  clear hcl h4 h3 h0 hb HSh HPr hmk
  rcases hc12 with hc | hc
  all_goals
    rw [hc] at HC
    clear hc
    go_enter Tryz.func8, Tryz.ntmps8
    go_wp2_with fail
    refine HC.out.mono ?_
    rintro e w1 ⟨rfl, hb1⟩
    have HB1 := Lib.hid hb1
    have hmk := HMk.out
    clear hb1
    go_wp2_with fail
    have HBd := Lib.hid (show Below w.heap.size w w1.drew from below_chain HB1.out (below_draw' w1))
    clear HB1
    have p1 : IntKind.i64.wrap 63 = 63 := by decide
    have p2 : IntKind.u64.wrap 9223372036854775808 = 9223372036854775808 := by decide
    have p3 : IntKind.u64.wrap 9223372036854775807 = 9223372036854775807 := by decide
    go_region_held3 (fun w' => Hid (Below w.heap.size w w'))
      (first | exact HBd | exact Lib.hid (below_chain (Hid.out (by assumption)) hb4) | exact Lib.hid (below_chain (Hid.out (by assumption)) hb3) | exact (by assumption))
      (first | (go_at_call 17; refine (HMi.out _).mono ?_; rintro e w2 ⟨rfl, hw2⟩; (have h := hw2.symm); subst h; clear hw2) | (go_at_call 19; refine (HSz.out _ (HT.out.below (Hid.out (by assumption)))).mono ?_; rintro e w3 ⟨d, q, rfl, hok, hb3⟩; (have HOk := Lib.hid hok); clear hok) | (go_at_call 18; refine (lay_walk _ _ (tl0_some (sh_pos HOk.out.1)) (Nat.le_trans (tl0_len _) (Nat.le_trans (decDigits_len HOk.out.2.1 (by omega)) (by omega))) (dq_lo HOk.out.2) (dq_hi HOk.out.2) _ (H10.out.below (Hid.out (by assumption)))).mono ?_; rintro e w4 ⟨rfl, hb4⟩; (have hls := lay_size HOk.out.2); (have hl2 := str_lim hsl hls)))
    all_goals
      have HBe : Hid (Below w.heap.size w w4) := by assumption
      go_wp2_with fail
      go_ret2
      exact ⟨_, by rw [← bs_append]; rfl, HPs.out d q HOk.out, HBe.out⟩
end Go.Proofs.YtibjogbalmbeeaaGreatDoor

namespace Go.Proofs.YtibjogbalmbeeaaGreatDoor
open Go.RowKit

theorem uf_down {f : Fm} {V : Nat} {t q : Int} (h : ufF f t ≤ V * ufG t) (hq : q ≤ t) : ufF f q ≤ V * ufG q := by
  have e := uf_shift f q (t - q).toNat
  rw [show q + (((t - q).toNat : Nat) : Int) = t by omega] at e
  have hT := ufG_pos t
  have k1 : ufF f t * ufG q ≤ V * ufG t * ufG q := Nat.mul_le_mul_right _ h
  rw [e] at k1
  refine Nat.le_of_mul_le_mul_right (c := ufG t) ?_ hT
  calc ufF f q * ufG t ≤ 10 ^ (t - q).toNat * ufF f q * ufG t := Nat.mul_le_mul_right _ (Nat.le_mul_of_pos_left _ (Nat.pow_pos (by omega)))
    _ ≤ _ := k1
    _ = _ := by ac_rfl
theorem ten_unique {f : Fm} {V : Nat} {t s : Int} (ht : ufF f t ≤ V * ufG t ∧ V * ufG (t + 1) < ufF f (t + 1)) (hs : ufF f s ≤ V * ufG s ∧ V * ufG (s + 1) < ufF f (s + 1)) : t = s := by
  rcases Int.lt_trichotomy t s with h | h | h
  · have := uf_down hs.1 (show t + 1 ≤ s by omega)
    omega
  · exact h
  · have := uf_down ht.1 (show s + 1 ≤ t by omega)
    omega
end Go.Proofs.YtibjogbalmbeeaaGreatDoor

namespace Go.Proofs.YtibjogbalmbeeaaGreatDoor
open Go.RowKit

end Go.Proofs.YtibjogbalmbeeaaGreatDoor

namespace Go.Proofs.YtibjogbalmbeeaaGreatDoor
open Go.RowKit

/-- Print of whatever pattern. -/
theorem dprint_any (f : Fm) (hf : f.ok) (b : Nat) (hb : b < 2 ^ (f.S + 1)) (w : World) (ht : Tab64 w) (h10 : Tab10 w) :
    Calls Tryz.prog 8 #[.int .i64 (fmt f), .int .u64 (b : Int)] w fun e w' => ∃ T, e = .returned (.tuple #[.string (bs T), .int .i64 0]) ∧ PrOk f b T ∧ Below w.heap.size w w' := by
  rcases hf with h | h <;> subst h
  · exact dprint_S b hb w ht h10
  · exact dprint_D b hb w ht h10
end Go.Proofs.YtibjogbalmbeeaaGreatDoor

namespace Go.Proofs.YtibjogbalmbeeaaGreatDoor
open Go.RowKit

theorem pat_cut (f : Fm) {b : Nat} (hb : b < 2 ^ (f.S + 1)) : sgn f (decide (2 ^ f.S ≤ b)) (b % 2 ^ f.S) = b := by
  rw [Nat.pow_succ] at hb
  unfold sgn
  by_cases h : 2 ^ f.S ≤ b
  · rw [decide_eq_true h, if_pos rfl, Nat.mod_eq_sub_mod h, Nat.mod_eq_of_lt (by omega)]; omega
  · rw [decide_eq_false h, if_neg (by decide), Nat.mod_eq_of_lt (by omega)]
theorem pat_none {f : Fm} {D p : Nat} (hD : 0 < D) (h : IsPat f 0 D p) : p = 0 := by
  cases p with
  | zero => rfl
  | succ p =>
    have := ((h p).1 (Nat.le_refl _)).2
    have h1 := Nat.mul_pos (md_pos f p) hD
    rw [Nat.zero_mul] at this
    rcases this with h | h
    · omega
    · omega
theorem sgS_ok (b M : Nat) : sgOk (if M ≤ b then [45] else []) ∧ decide ((if M ≤ b then [45] else [] : List UInt8) = [45]) = decide (M ≤ b) := by
  by_cases h : M ≤ b
  · rw [if_pos h, decide_eq_true h]; exact ⟨.inr (.inr rfl), by decide⟩
  · rw [if_neg h, decide_eq_false h]; exact ⟨.inl rfl, by decide⟩
theorem layS_pos (D : List UInt8) (q : Int) (h : 1 ≤ D.length) : 1 ≤ (layS D q).length := by
  unfold layS
  split
  · rw [List.length_append]; omega
  · split
    · simp only [List.length_append, List.length_cons, List.length_nil]; omega
    · split
      · simp only [List.length_append, List.length_cons, List.length_nil]; omega
      · simp only [List.length_append, List.length_cons, List.length_nil]; omega
theorem back_plain {f : Fm} {b : Nat} (hb : b < 2 ^ (f.S + 1)) {T : List UInt8} (hT : PrOk f b T) {v : Nat} {k : Int} (h : ParOk f (bs T) v k) :
    k = 0 ∧ T ≠ [] ∧ (f.inf < b % 2 ^ f.S → v = f.quiet ∧ T = [110, 97, 110]) ∧ (b % 2 ^ f.S ≤ f.inf → v = b) := by
  obtain ⟨t1, t2, t3, t4⟩ := hT
  have hc := pat_cut f hb
  obtain ⟨s1, s2⟩ := sgS_ok b (2 ^ f.S)
  by_cases c1 : f.inf < b % 2 ^ f.S
  · have e := t1 c1
    subst e
    unfold ParOk at h
    rw [if_neg (by decide), show tokOf (bs [110, 97, 110]) = some (0, false, 0, 0) from by decide] at h
    obtain ⟨h1, h2⟩ := h
    unfold TokP at h1
    rw [if_pos rfl] at h1
    exact ⟨h2, by simp, fun _ => ⟨h1, rfl⟩, fun h => by omega⟩
  by_cases c2 : b % 2 ^ f.S = f.inf
  · have e := t2 c2
    have ht : tokOf (bs T) = some (1, decide (2 ^ f.S ≤ b), 0, 0) := by
      rw [e]
      by_cases h : 2 ^ f.S ≤ b
      · rw [if_pos h, decide_eq_true h]; decide
      · rw [if_neg h, decide_eq_false h]; decide
    have hl : ¬ 4000 < (bs T).size := by
      rw [bs_size, e, List.length_append]
      have : (if 2 ^ f.S ≤ b then [45] else [] : List UInt8).length ≤ 1 := by split <;> simp
      simp
      omega
    unfold ParOk at h
    rw [if_neg hl, ht] at h
    obtain ⟨h1, h2⟩ := h
    unfold TokP at h1
    rw [if_neg (by decide), if_pos rfl, ← c2, hc] at h1
    exact ⟨h2, by rw [e]; simp, fun h => by omega, fun _ => h1⟩
  by_cases c3 : b % 2 ^ f.S = 0
  · have e := t3 c3
    rw [e] at h
    obtain ⟨h1, p, h2, h3, h4⟩ := par_form (pt := none) (ex := none) (W := [48]) h (by simp [ptT, exT]) s1 (by decide) rfl (by simp) trivial (by have := s1; rcases this with e | e | e <;> rw [e] <;> simp)
    have e0 : tn (dcV ([48] ++ ptD none)) (exV none - ((ptD none).length : Int)) = 0 := by decide
    rw [e0] at h2
    have := pat_none (td_pos _) h2
    subst this
    rw [s2, ← c3, hc] at h4
    exact ⟨h1, by rw [e]; simp, fun h => by omega, fun _ => h4⟩
  obtain ⟨d, q, ⟨k1, k2⟩, e⟩ := t4 c3 (by omega)
  have hd0 := sh_pos k1
  obtain ⟨D, hD⟩ : ∃ D, Lib.decDigits d = D := ⟨_, rfl⟩
  have ht0 := tl0_some hd0
  have hDl := decDigits_len k2.1 (by omega)
  have hDv := (dcV_digits d).1
  have hDd := digs_dec d
  rw [hD] at e ht0 hDl hDv hDd
  have htl := tl0_len D
  have hz := tl0_zeros D
  obtain ⟨q', hq'⟩ : ∃ q' : Int, q + (D.length : Int) - ((tl0 D).length : Int) = q' := ⟨_, rfl⟩
  rw [hq'] at e
  have htd : (tl0 D).all isDec = true := by rw [hz] at hDd; exact (all_left hDd).1
  rw [e] at h
  obtain ⟨h1, p, h2, h3, h4⟩ := lay_form h s1 htd ht0 (by omega) (by omega) (by omega)
  have hval : d = dcV (tl0 D) * 10 ^ (D.length - (tl0 D).length) := hDv.symm.trans ((congrArg dcV hz).trans (dcV_zeros _ _))
  have hp := (pat_same (x := q) (x' := q') (D.length - (tl0 D).length) (by omega) hval).2 h2
  obtain ⟨t, n, _, _, _, _, hsd, _⟩ := k1
  have := (sh_pat c3 (by omega) hsd).unique hp
  subst this
  rw [s2, hc] at h4
  refine ⟨h1, ?_, fun h => by omega, fun _ => h4⟩
  rw [e]
  intro e0
  have hz0 : (layS (tl0 D) q').length = 0 := by
    have := congrArg List.length e0
    rw [List.length_append, List.length_nil] at this
    omega
  have := layS_pos (tl0 D) q' ht0
  omega
end Go.Proofs.YtibjogbalmbeeaaGreatDoor
