/- The reference's Print and Digits at any format; plays at kinds 2 and 3; the laws DecimalPrints, DecimalDigits. · The law DecimalDigits: what wakes it, and its walk. -/
import Derived.Test.YtmfjimmodaofdaaGreatDoorAB
import Derived.Test.YtmfjimmodaofdaaGreatDoorB2
import Derived.Test.YtmfjimmodaofdaaGreatDoorDw
import Derived.Test.YtmfjimmodaofdaaGreatDoorQt
namespace Go.Proofs.YtmfjimmodaofdaaGreatDoor
open Go.RowKit

theorem ptE_mex (f : Fm) (z : Nat) : ptE (2 ^ (f.P - 1)) f.L z = f.L + (mex f z : Int) := by
  unfold ptE mex
  obtain ⟨k, hk⟩ : ∃ k, z / 2 ^ (f.P - 1) = k := ⟨_, rfl⟩
  rw [hk]
  by_cases h : k = 0
  · rw [if_pos h, if_pos h]; simp
  · rw [if_neg h, if_neg h]; omega
theorem rpt_S (z : Nat) (hz : z < 2147483648) (w : World) : Calls Tryz.prog 182 #[.agg #[.int .u64 2147483648, .int .i64 24, .int .i64 (-149), .int .i64 104, .int .u64 2139095040, .int .u64 2143289345], .int .u64 (z : Int)] w fun e w' => e = .returned (.tuple #[.int .u64 ((mnt fmS z : Nat) : Int), .int .i64 (fmS.L + (mex fmS z : Int))]) ∧ Below w.heap.size w w' := by
  have h := rparts_S z hz w
  rw [show ptM 8388608 z = mnt fmS z from rfl, show ptE 8388608 (-149) z = fmS.L + (mex fmS z : Int) from ptE_mex fmS z] at h
  exact h
theorem rpt_D (z : Nat) (hz : z < 9223372036854775808) (w : World) : Calls Tryz.prog 182 #[.agg #[.int .u64 9223372036854775808, .int .i64 53, .int .i64 (-1074), .int .i64 971, .int .u64 9218868437227405312, .int .u64 9221120237041090561], .int .u64 (z : Int)] w fun e w' => e = .returned (.tuple #[.int .u64 ((mnt fmD z : Nat) : Int), .int .i64 (fmD.L + (mex fmD z : Int))]) ∧ Below w.heap.size w w' := by
  have h := rparts_D z hz w
  rw [show ptM 4503599627370496 z = mnt fmD z from rfl, show ptE 4503599627370496 (-1074) z = fmD.L + (mex fmD z : Int) from ptE_mex fmD z] at h
  exact h
theorem inf_S' : fmS.inf = 2139095040 := by decide
theorem inf_D' : fmD.inf = 9218868437227405312 := by decide

theorem rdocprint_any (f : Fm) (hf : f.ok) (b : Nat) (hb : b < 2 ^ (f.S + 1)) (w : World) :
    Calls Tryz.prog 114 #[.int .i64 (fmt f), .int .u64 (b : Int)] w fun e w' => ∃ T, e = .returned (.tuple #[.string (bs T), .int .i64 0]) ∧ PrOk f b T ∧ Below w.heap.size w w' := by
  rcases hf with h | h <;> subst h
  · have hb1 : b < 4294967296 := hb
    exact rdocprint_gen fmS 32 2147483648 24 (-149) 104 2143289345 2139095040 inf_S' (by decide) b (fun W => rchk_S b hb1 W) (fun W => rof07_S W) (fun W => rcut_S b (by omega) W)
      (fun z W h0 hz => rshort_gen fmS (.inl rfl) _ _ _ _ _ _ z h0 hz (fun W => rpt_S z (by rw [inf_S'] at hz; omega) W) (fun nv dv N D W a b c d e f => rsize8_S nv dv N D W a b c d e f) W) w
  · have hb1 : b < 18446744073709551616 := hb
    exact rdocprint_gen fmD 64 9223372036854775808 53 (-1074) 971 9221120237041090561 9218868437227405312 inf_D' (by decide) b (fun W => rchk_D b hb1 W) (fun W => rof07_D W) (fun W => rcut_D b hb1 W)
      (fun z W h0 hz => rshort_gen fmD (.inr rfl) _ _ _ _ _ _ z h0 hz (fun W => rpt_D z (by rw [inf_D'] at hz; omega) W) (fun nv dv N D W a b c d e f => rsize8_D nv dv N D W a b c d e f) W) w
theorem rdocdigits_any (f : Fm) (hf : f.ok) (b : Nat) (hb : b < 2 ^ (f.S + 1)) (n : Int) (w : World) :
    Calls Tryz.prog 115 #[.int .i64 (fmt f), .int .u64 (b : Int), .int .i64 n] w fun e w' => ∃ (T : List UInt8) (k : Int), e = .returned (.tuple #[.string (bs T), .int .i64 k]) ∧ DgAns f b n T k ∧ Below w.heap.size w w' := by
  rcases hf with h | h <;> subst h
  · have hb1 : b < 4294967296 := hb
    exact rdocdigits_gen fmS (.inl rfl) 32 2147483648 24 (-149) 104 2143289345 2139095040 inf_S' b n (fun W => rchk_S b hb1 W) (fun W => rof07_S W) (fun W => rcut_S b (by omega) W)
      (fun z W hz => rpt_S z (by rw [inf_S'] at hz; omega) W) w
  · have hb1 : b < 18446744073709551616 := hb
    exact rdocdigits_gen fmD (.inr rfl) 64 9223372036854775808 53 (-1074) 971 9221120237041090561 9218868437227405312 inf_D' b n (fun W => rchk_D b hb1 W) (fun W => rof07_D W) (fun W => rcut_D b hb1 W)
      (fun z W hz => rpt_D z (by rw [inf_D'] at hz; omega) W) w

set_option maxRecDepth 100000 in
/-- The reference's Print where Check refuses. -/
theorem rdocprint_bad (FF : Int) (b : Nat) (k : Int) (hk : k = 1 ∨ k = 2) (w : World)
    (hCk : ∀ W, Calls Tryz.prog 78 #[.int .i64 FF, .int .u64 (b : Int)] W fun e w' => e = .returned (.int .i64 k) ∧ Below W.heap.size W w') :
    Calls Tryz.prog 114 #[.int .i64 FF, .int .u64 (b : Int)] w fun e w' => e = .returned (.tuple #[.string ⟨#[]⟩, .int .i64 k]) ∧ Below w.heap.size w w' := by
  have HC := Lib.hid hCk
  have g1 : (k != 0) = true := by rcases hk with h | h <;> subst h <;> rfl
  clear hCk hk
  go_enter Tryz.func114, Tryz.ntmps114
  go_wp2_with fail
  refine (HC.out _).mono ?_
  rintro e w1 ⟨rfl, hb1⟩
  go_wp2
  go_ret2
  exact ⟨rfl, hb1⟩
set_option maxRecDepth 100000 in
theorem rdocdigits_no (f : Int) (h1 : f ≠ 32) (h2 : f ≠ 64) (b : Nat) (n : Int) (w : World) :
    Calls Tryz.prog 115 #[.int .i64 f, .int .u64 (b : Int), .int .i64 n] w fun e w' => e = .returned (.tuple #[.string ⟨#[]⟩, .int .i64 1]) ∧ Below w.heap.size w w' := by
  have HO := Lib.hid (rof07_no f h1 h2 w)
  clear h1 h2
  go_enter Tryz.func115, Tryz.ntmps115
  go_wp2_with fail
  refine HO.out.mono ?_
  rintro e w1 ⟨rfl, hb1⟩
  have HB := Lib.hid (BxS.new hb1 0 0 0 0 0 0)
  clear hb1
  go_wp2
  go_ret2
  exact ⟨rfl, HB.out.bl⟩
set_option maxRecDepth 100000 in
theorem rdocdigits_wide (b : Nat) (hb : 4294967296 ≤ b) (hb2 : b < 18446744073709551616) (n : Int) (w : World) :
    Calls Tryz.prog 115 #[.int .i64 32, .int .u64 (b : Int), .int .i64 n] w fun e w' => e = .returned (.tuple #[.string ⟨#[]⟩, .int .i64 (if n < 1 ∨ 800 < n then 1 else 2)]) ∧ Below w.heap.size w w' := by
  have HO := Lib.hid (rof07_S w)
  have HC := Lib.hid (fun W => rchk_wide b hb2 hb W)
  clear hb hb2
  by_cases hbad : n < 1 ∨ 800 < n
  · rw [if_pos hbad]
    by_cases h1 : n < 1
    · clear hbad
      go_enter Tryz.func115, Tryz.ntmps115
      go_wp2_with fail
      refine HO.out.mono ?_
      rintro e w2 ⟨rfl, hb2⟩
      have HB := Lib.hid (BxS.new hb2 2147483648 24 (-149) 104 2139095040 2143289345)
      clear hb2
      go_wp2
      go_ret2
      exact ⟨rfl, HB.out.bl⟩
    · have h2 : 800 < n := hbad.resolve_left h1
      have h3 : decide (n < 1) = false := decide_eq_false h1
      clear hbad
      go_enter Tryz.func115, Tryz.ntmps115
      go_wp2_with fail
      refine HO.out.mono ?_
      rintro e w2 ⟨rfl, hb2⟩
      have HB := Lib.hid (BxS.new hb2 2147483648 24 (-149) 104 2139095040 2143289345)
      clear hb2
      go_wp2
      go_ret2
      exact ⟨rfl, HB.out.bl⟩
  · rw [if_neg hbad]
    have hn1 : ¬ n < 1 := fun h => hbad (.inl h)
    have hn1' : decide (n < 1) = false := decide_eq_false hn1
    have hn2 : ¬ 800 < n := fun h => hbad (.inr h)
    have hn2' : decide (800 < n) = false := decide_eq_false hn2
    clear hbad
    go_enter Tryz.func115, Tryz.ntmps115
    go_wp2_with fail
    refine HO.out.mono ?_
    rintro e w2 ⟨rfl, hb2⟩
    have HB := Lib.hid (BxS.new hb2 2147483648 24 (-149) 104 2139095040 2143289345)
    clear hb2
    go_wp2_with fail
    refine (HC.out _).mono ?_
    rintro e w3 ⟨rfl, hb3⟩
    have HW := Lib.hid (below_chain HB.out.bl hb3)
    clear hb3
    go_wp2
    go_ret2
    exact ⟨rfl, HW.out⟩

set_option maxRecDepth 100000 in
/-- The program's Print where ClassOf refuses. -/
theorem dprint_bad (FF : Int) (b : Nat) (k : Int) (hk : k = 1 ∨ k = 2) (w : World)
    (hCk : ∀ W, Calls Tryz.prog 37 #[.int .i64 FF, .int .u64 (b : Int)] W fun e w' => e = .returned (.tuple #[.int .i64 0, .int .i64 k]) ∧ Below W.heap.size W w') :
    Calls Tryz.prog 15 #[.int .i64 FF, .int .u64 (b : Int)] w fun e w' => e = .returned (.tuple #[.string ⟨#[]⟩, .int .i64 k]) ∧ Below w.heap.size w w' := by
  have HC := Lib.hid hCk
  have g1 : (k != 0) = true := by rcases hk with h | h <;> subst h <;> rfl
  clear hCk hk
  go_enter Tryz.func15, Tryz.ntmps15
  go_wp2_with fail
  refine (HC.out _).mono ?_
  rintro e w1 ⟨rfl, hb1⟩
  go_wp2
  go_ret2
  exact ⟨rfl, hb1⟩
set_option maxRecDepth 100000 in
theorem ddigits_no (f : Int) (h1 : f ≠ 32) (h2 : f ≠ 64) (b : Nat) (n : Int) (w : World) :
    Calls Tryz.prog 30 #[.int .i64 f, .int .u64 (b : Int), .int .i64 n] w fun e w' => e = .returned (.tuple #[.string ⟨#[]⟩, .int .i64 1]) ∧ Below w.heap.size w w' := by
  have HO := Lib.hid (quiet_no f h1 h2 w)
  clear h1 h2
  go_enter Tryz.func30, Tryz.ntmps30
  go_wp2_with fail
  refine HO.out.mono ?_
  rintro e w1 ⟨rfl, hb1⟩
  go_wp2
  go_ret2
  exact ⟨rfl, hb1⟩
set_option maxRecDepth 100000 in
theorem ddigits_wide (b : Nat) (hb : 4294967296 ≤ b) (hb2 : b < 18446744073709551616) (n : Int) (w : World) :
    Calls Tryz.prog 30 #[.int .i64 32, .int .u64 (b : Int), .int .i64 n] w fun e w' => e = .returned (.tuple #[.string ⟨#[]⟩, .int .i64 (if n < 1 ∨ 800 < n then 1 else 2)]) ∧ Below w.heap.size w w' := by
  have HQ0 := quiet_any fmS (.inl rfl) w
  rw [fmt_S] at HQ0
  have HQ := Lib.hid HQ0
  have HC := Lib.hid (fun W => classOf_wide b hb hb2 W)
  clear hb hb2 HQ0
  obtain ⟨qt, hqt⟩ : ∃ qt, fmS.quiet = qt := ⟨_, rfl⟩
  rw [hqt] at HQ
  clear hqt
  by_cases hbad : n < 1 ∨ 800 < n
  · rw [if_pos hbad]
    by_cases h1 : n < 1
    · clear hbad
      go_enter Tryz.func30, Tryz.ntmps30
      go_wp2_with fail
      refine HQ.out.mono ?_
      rintro e w1 ⟨rfl, hb1⟩
      go_wp2
      go_ret2
      exact ⟨rfl, hb1⟩
    · have h2 : 800 < n := hbad.resolve_left h1
      have h3 : decide (n < 1) = false := decide_eq_false h1
      clear hbad
      go_enter Tryz.func30, Tryz.ntmps30
      go_wp2_with fail
      refine HQ.out.mono ?_
      rintro e w1 ⟨rfl, hb1⟩
      go_wp2
      go_ret2
      exact ⟨rfl, hb1⟩
  · rw [if_neg hbad]
    have hn1 : ¬ n < 1 := fun h => hbad (.inl h)
    have hn1' : decide (n < 1) = false := decide_eq_false hn1
    have hn2 : ¬ 800 < n := fun h => hbad (.inr h)
    have hn2' : decide (800 < n) = false := decide_eq_false hn2
    clear hbad
    go_enter Tryz.func30, Tryz.ntmps30
    go_wp2_with fail
    refine HQ.out.mono ?_
    rintro e w1 ⟨rfl, hb1⟩
    have HW1 := Lib.hid hb1
    clear hb1
    go_wp2_with fail
    refine (HC.out _).mono ?_
    rintro e w3 ⟨rfl, hb3⟩
    have HW := Lib.hid (below_chain HW1.out hb3)
    clear hb3
    go_wp2
    go_ret2
    exact ⟨rfl, HW.out⟩

theorem sh_unique {f : Fm} {z d d' : Nat} {q q' : Int} (h : ShOk f z d q) (h' : ShOk f z d' q') : d = d' ∧ q = q' := by
  obtain ⟨t, n, h1, hn1, _, hq, hd, hno⟩ := h
  obtain ⟨t', n', h1', hn1', _, hq', hd', hno'⟩ := h'
  have e := ten_unique h1 h1'
  subst e
  have hn : n = n' := by
    rcases Nat.lt_trichotomy n n' with c | c | c
    · have := hno' n hn1 c
      rw [← hq, hd] at this
      exact absurd this (by simp)
    · exact c
    · have := hno n' hn1' c
      rw [← hq', hd'] at this
      exact absurd this (by simp)
  subst hn
  have e : q = q' := by omega
  subst e
  rw [hd] at hd'
  injection hd' with hd'
  exact ⟨hd', rfl⟩
theorem prOk_unique {f : Fm} {b : Nat} {T T' : List UInt8} (h : PrOk f b T) (h' : PrOk f b T') : T = T' := by
  obtain ⟨a1, a2, a3, a4⟩ := h
  obtain ⟨b1, b2, b3, b4⟩ := h'
  by_cases c1 : f.inf < b % 2 ^ f.S
  · rw [a1 c1, b1 c1]
  by_cases c2 : b % 2 ^ f.S = f.inf
  · rw [a2 c2, b2 c2]
  by_cases c3 : b % 2 ^ f.S = 0
  · rw [a3 c3, b3 c3]
  obtain ⟨d, q, ⟨h1, _⟩, e⟩ := a4 c3 (by omega)
  obtain ⟨d', q', ⟨h1', _⟩, e'⟩ := b4 c3 (by omega)
  obtain ⟨rfl, rfl⟩ := sh_unique h1 h1'
  rw [e, e']
theorem dgOk_unique {f : Fm} {b n : Nat} {T T' : List UInt8} (h : DgOk f b n T) (h' : DgOk f b n T') : T = T' := by
  obtain ⟨a1, a2⟩ := h
  obtain ⟨b1, b2⟩ := h'
  by_cases c : b % 2 ^ f.S = 0
  · rw [a1 c, b1 c]
  · obtain ⟨t, h1, _, _, e⟩ := a2 c
    obtain ⟨t', h1', _, _, e'⟩ := b2 c
    obtain rfl := ten_unique h1 h1'
    rw [e, e']
theorem dgAns_unique {f : Fm} {b : Nat} {n : Int} {T T' : List UInt8} {k k' : Int} (h : DgAns f b n T k) (h' : DgAns f b n T' k') : T = T' ∧ k = k' := by
  unfold DgAns at h h'
  by_cases c1 : n < 1 ∨ 800 < n
  · rw [if_pos c1] at h h'
    rw [h.1, h'.1, h.2, h'.2]; exact ⟨rfl, rfl⟩
  · rw [if_neg c1] at h h'
    by_cases c2 : f.inf ≤ b % 2 ^ f.S
    · rw [if_pos c2] at h h'
      rw [h.1, h'.1, h.2, h'.2]; exact ⟨rfl, rfl⟩
    · rw [if_neg c2] at h h'
      exact ⟨dgOk_unique h.2 h'.2, by rw [h.1, h'.1]⟩

/-- Print and DocPrint, at any format and pattern: one answer. -/
theorem both_print (f : Int) (b : Nat) (hb : b < 18446744073709551616) (w1 : World) (ht : Tab64 w1) (h10 : Tab10 w1) :
    Calls Tryz.prog 15 #[.int .i64 f, .int .u64 (b : Int)] w1 fun e w' => ∃ (T : ByteArray) (k : Int), e = .returned (.tuple #[.string T, .int .i64 k]) ∧ (∀ W, Calls Tryz.prog 114 #[.int .i64 f, .int .u64 (b : Int)] W fun e w' => e = .returned (.tuple #[.string T, .int .i64 k]) ∧ Below W.heap.size W w') ∧ Below w1.heap.size w1 w' := by
  have key : ∀ (g : Fm) (hg : g.ok), b < 2 ^ (g.S + 1) → fmt g = f → Calls Tryz.prog 15 #[.int .i64 f, .int .u64 (b : Int)] w1 fun e w' => ∃ (T : ByteArray) (k : Int), e = .returned (.tuple #[.string T, .int .i64 k]) ∧ (∀ W, Calls Tryz.prog 114 #[.int .i64 f, .int .u64 (b : Int)] W fun e w' => e = .returned (.tuple #[.string T, .int .i64 k]) ∧ Below W.heap.size W w') ∧ Below w1.heap.size w1 w' := fun g hg hbg hfg => by
    subst hfg
    refine (dprint_any g hg b hbg w1 ht h10).mono ?_
    rintro e w' ⟨T, rfl, hp, hb⟩
    refine ⟨bs T, 0, rfl, fun W => ?_, hb⟩
    refine (rdocprint_any g hg b hbg W).mono ?_
    rintro e w'' ⟨T', rfl, hp', hb'⟩
    obtain rfl := prOk_unique hp hp'
    exact ⟨rfl, hb'⟩
  by_cases h32 : f = 32
  · by_cases hw : b < 4294967296
    · exact key fmS (.inl rfl) hw h32.symm
    · subst h32
      refine (dprint_bad 32 b 2 (.inr rfl) w1 (fun W => classOf_wide b (by omega) hb W)).mono ?_
      rintro e w' ⟨rfl, hb1⟩
      exact ⟨_, 2, rfl, fun W => rdocprint_bad 32 b 2 (.inr rfl) W (fun W => rchk_wide b hb (by omega) W), hb1⟩
  by_cases h64 : f = 64
  · exact key fmD (.inr rfl) hb h64.symm
  refine (dprint_bad f b 1 (.inl rfl) w1 (fun W => classOf_no f h32 h64 b W)).mono ?_
  rintro e w' ⟨rfl, hb1⟩
  exact ⟨_, 1, rfl, fun W => rdocprint_bad f b 1 (.inl rfl) W (fun W => rchk_no f h32 h64 b W), hb1⟩
/-- Digits and DocDigits, at any format, pattern and count: one answer. -/
theorem both_digits (f : Int) (b : Nat) (hb : b < 18446744073709551616) (n : Int) (w1 : World) (ht : Tab64 w1) (h10 : Tab10 w1) :
    Calls Tryz.prog 30 #[.int .i64 f, .int .u64 (b : Int), .int .i64 n] w1 fun e w' => ∃ (T : ByteArray) (k : Int), e = .returned (.tuple #[.string T, .int .i64 k]) ∧ (∀ W, Calls Tryz.prog 115 #[.int .i64 f, .int .u64 (b : Int), .int .i64 n] W fun e w' => e = .returned (.tuple #[.string T, .int .i64 k]) ∧ Below W.heap.size W w') ∧ Below w1.heap.size w1 w' := by
  have key : ∀ (g : Fm) (hg : g.ok), b < 2 ^ (g.S + 1) → fmt g = f → Calls Tryz.prog 30 #[.int .i64 f, .int .u64 (b : Int), .int .i64 n] w1 fun e w' => ∃ (T : ByteArray) (k : Int), e = .returned (.tuple #[.string T, .int .i64 k]) ∧ (∀ W, Calls Tryz.prog 115 #[.int .i64 f, .int .u64 (b : Int), .int .i64 n] W fun e w' => e = .returned (.tuple #[.string T, .int .i64 k]) ∧ Below W.heap.size W w') ∧ Below w1.heap.size w1 w' := fun g hg hbg hfg => by
    subst hfg
    refine (ddg_any g hg b hbg n w1 ht h10).mono ?_
    rintro e w' ⟨T, k, rfl, hp, hb⟩
    refine ⟨bs T, k, rfl, fun W => ?_, hb⟩
    refine (rdocdigits_any g hg b hbg n W).mono ?_
    rintro e w'' ⟨T', k', rfl, hp', hb'⟩
    obtain ⟨rfl, rfl⟩ := dgAns_unique hp hp'
    exact ⟨rfl, hb'⟩
  by_cases h32 : f = 32
  · by_cases hw : b < 4294967296
    · exact key fmS (.inl rfl) hw h32.symm
    · subst h32
      refine (ddigits_wide b (by omega) hb n w1).mono ?_
      rintro e w' ⟨rfl, hb1⟩
      exact ⟨_, _, rfl, fun W => rdocdigits_wide b (by omega) hb n W, hb1⟩
  by_cases h64 : f = 64
  · exact key fmD (.inr rfl) hb h64.symm
  refine (ddigits_no f h32 h64 b n w1).mono ?_
  rintro e w' ⟨rfl, hb1⟩
  exact ⟨_, 1, rfl, fun W => rdocdigits_no f h32 h64 b n W, hb1⟩
end Go.Proofs.YtmfjimmodaofdaaGreatDoor

namespace Go.Proofs.YtmfjimmodaofdaaGreatDoor
open Go.RowKit
set_option maxRecDepth 100000 in
set_option maxHeartbeats 1000000 in
theorem plays_two (f : Int) (s : ByteArray) (b : Nat) (hb : b < 18446744073709551616) (n : Int) (w : World) (ht : Tab64 w) (h10 : Tab10 w) :
    Calls Tryz.prog 62 #[.agg #[.int .i64 2, .int .i64 f, .string s, .int .u64 (b : Int), .int .i64 n]] w fun e w' => e = .returned (.bool true) ∧ Below w.heap.size w w' := by
  have HP := Lib.hid (fun W h h' => both_print f b hb W h h')
  have HT := Lib.hid ht
  have H10 := Lib.hid h10
  have hb0 := below_alloc' w (.cells #[.int .i64 2, .int .i64 f, .string s, .int .u64 (b : Int), .int .i64 n] 105)
  have HW0 := Lib.hid hb0
  clear ht h10 hb0 hb
  go_enter Tryz.func62, Tryz.ntmps62
  go_wp2_with fail
  refine (HP.out _ (HT.out.below HW0.out) (H10.out.below HW0.out)).mono ?_
  rintro e w1 ⟨v, k, rfl, hR, hb1⟩
  have HR := Lib.hid hR
  have HW1 := Lib.hid (below_chain HW0.out hb1)
  have y0 : w1.cell? ⟨w.heap.size, 0, none⟩ = some (.int .i64 2) := cell_kept hb1 (by simp)
  have y1 : w1.cell? ⟨w.heap.size, 1, none⟩ = some (.int .i64 f) := cell_kept hb1 (by simp)
  have y3 : w1.cell? ⟨w.heap.size, 3, none⟩ = some (.int .u64 (b : Int)) := cell_kept hb1 (by simp)
  clear hb1 hR
  go_wp2_with fail
  refine (HR.out _).mono ?_
  rintro e w2 ⟨rfl, hb2⟩
  have HW2 := Lib.hid (below_chain HW1.out hb2)
  clear hb2 y0 y1 y3
  go_wp2
  go_ret
  exact ⟨rfl, HW2.out⟩
set_option maxRecDepth 100000 in
set_option maxHeartbeats 1000000 in
theorem plays_three (f : Int) (s : ByteArray) (b : Nat) (hb : b < 18446744073709551616) (n : Int) (w : World) (ht : Tab64 w) (h10 : Tab10 w) :
    Calls Tryz.prog 62 #[.agg #[.int .i64 3, .int .i64 f, .string s, .int .u64 (b : Int), .int .i64 n]] w fun e w' => e = .returned (.bool true) ∧ Below w.heap.size w w' := by
  have HP := Lib.hid (fun W h h' => both_digits f b hb n W h h')
  have HT := Lib.hid ht
  have H10 := Lib.hid h10
  have hb0 := below_alloc' w (.cells #[.int .i64 3, .int .i64 f, .string s, .int .u64 (b : Int), .int .i64 n] 105)
  have HW0 := Lib.hid hb0
  clear ht h10 hb0 hb
  go_enter Tryz.func62, Tryz.ntmps62
  go_wp2_with fail
  refine (HP.out _ (HT.out.below HW0.out) (H10.out.below HW0.out)).mono ?_
  rintro e w1 ⟨v, k, rfl, hR, hb1⟩
  have HR := Lib.hid hR
  have HW1 := Lib.hid (below_chain HW0.out hb1)
  have y0 : w1.cell? ⟨w.heap.size, 0, none⟩ = some (.int .i64 3) := cell_kept hb1 (by simp)
  have y1 : w1.cell? ⟨w.heap.size, 1, none⟩ = some (.int .i64 f) := cell_kept hb1 (by simp)
  have y3 : w1.cell? ⟨w.heap.size, 3, none⟩ = some (.int .u64 (b : Int)) := cell_kept hb1 (by simp)
  have y4 : w1.cell? ⟨w.heap.size, 4, none⟩ = some (.int .i64 n) := cell_kept hb1 (by simp)
  clear hb1 hR
  go_wp2_with fail
  refine (HR.out _).mono ?_
  rintro e w2 ⟨rfl, hb2⟩
  have HW2 := Lib.hid (below_chain HW1.out hb2)
  clear hb2 y0 y1 y3 y4
  go_wp2
  go_ret
  exact ⟨rfl, HW2.out⟩

/-- A step of a script lies at i. -/
def OpAt5 (w : World) (A : Option Addr) (i : Nat) : Prop := ∃ (bk off : Nat) (kk ff : Int) (s : ByteArray) (b : Nat) (n : Int), A = some ⟨bk, off, none⟩ ∧
  w.cell? ⟨bk, off + i * 5, none⟩ = some (.int .i64 kk) ∧ w.cell? ⟨bk, off + i * 5 + 1, none⟩ = some (.int .i64 ff) ∧ w.cell? ⟨bk, off + i * 5 + 2, none⟩ = some (.string s) ∧ w.cell? ⟨bk, off + i * 5 + 3, none⟩ = some (.int .u64 (b : Int)) ∧ w.cell? ⟨bk, off + i * 5 + 4, none⟩ = some (.int .i64 n) ∧ s.size ≤ 9223372036854775807 ∧ b < 18446744073709551616

set_option maxRecDepth 100000 in
set_option maxHeartbeats 2000000 in
theorem all_walk (K : Int) (hPl : ∀ (ff : Int) (s : ByteArray) (b : Nat) (n : Int) W, s.size ≤ 9223372036854775807 → b < 18446744073709551616 → Tab64 W → Tab10 W → Calls Tryz.prog 62 #[.agg #[.int .i64 K, .int .i64 ff, .string s, .int .u64 (b : Int), .int .i64 n]] W fun e w' => e = .returned (.bool true) ∧ Below W.heap.size W w')
    (A : Option Addr) (n c : Nat) (hn : n ≤ 1152921504606846976) (w : World) (ho : ∀ i, i < n → OpAt5 w A i) (ht : Tab64 w) (h10 : Tab10 w) :
    Calls Tryz.prog 29 #[.slice A n c, .int .i64 K, .int .i64 K] w fun e w' => e = .returned (.bool true) ∧ Below w.heap.size w w' := by
  have HPl := Lib.hid hPl
  have HT := Lib.hid ht
  have H10 := Lib.hid h10
  have HO := Lib.hid ho
  have HN := Lib.hid hn
  clear hPl ht h10 ho hn
  go_enter Tryz.func29, Tryz.ntmps29
  go_wp2_with fail
  go_loopw [11] (fun i wr => ∃ k : Nat, k ≤ n ∧ i = .int .i64 (k : Int) ∧ Hid (RowKit.Below w.heap.size w wr)) (fun i _ => n - (intOf i).toNat)
  case atStart => exact ⟨0, by omega, rfl, Lib.hid (Below.refl _ _)⟩
  case round =>
    obtain ⟨k, hk, rfl, HW⟩ := hrel
    by_cases hkn : k < n
    · obtain ⟨bk, off, kk, ff, s, b, m, rfl, c0, c1, c2, c3, c4, hs, hb⟩ := HO.out k hkn
      have d0 : wr.cell? ⟨bk, off + k * 5, none⟩ = some (.int .i64 kk) := cell_kept HW.out c0
      have d1 : wr.cell? ⟨bk, off + k * 5 + 1, none⟩ = some (.int .i64 ff) := cell_kept HW.out c1
      have d2 : wr.cell? ⟨bk, off + k * 5 + 2, none⟩ = some (.string s) := cell_kept HW.out c2
      have d3 : wr.cell? ⟨bk, off + k * 5 + 3, none⟩ = some (.int .u64 (b : Int)) := cell_kept HW.out c3
      have d4 : wr.cell? ⟨bk, off + k * 5 + 4, none⟩ = some (.int .i64 m) := cell_kept HW.out c4
      have HP := Lib.hid (fun W hT hX => HPl.out ff s b m W hs hb hT hX)
      have hki : (k : Int) < (n : Int) := by omega
      have hkw : IntKind.i64.wrap ((k : Int) + 1) = (k : Int) + 1 := by have := HN.out; rw [IntKind.wrap_i64]; omega
      have HWa := Lib.hid (below_chain HW.out (below_alloc' wr (.cells #[.int .i64 kk, .int .i64 ff, .string s, .int .u64 (b : Int), .int .i64 m] 105)))
      clear hs hb c0 c1 c2 c3 c4
      by_cases g1 : K ≤ kk
      · by_cases g2 : kk ≤ K
        · obtain rfl : kk = K := by omega
          go_wp2_with fail
          refine (HP.out _ (HT.out.below HWa.out) (H10.out.below HWa.out)).mono ?_
          rintro e w5 ⟨rfl, hb5⟩
          have HW5 := Lib.hid (below_chain HWa.out hb5)
          clear hb5 d0 d1 d2 d3 d4
          go_wp2_with fail
          go_roundw
          case rel => exact ⟨k + 1, by omega, by go_num, HW5⟩
          case measure => simp [intOf]; omega
        · go_wp2_with fail
          go_roundw
          case rel => exact ⟨k + 1, by omega, by go_num, HWa⟩
          case measure => simp [intOf]; omega
      · go_wp2_with fail
        go_roundw
        case rel => exact ⟨k + 1, by omega, by go_num, HWa⟩
        case measure => simp [intOf]; omega
    · have hki : ¬ (k : Int) < (n : Int) := by omega
      go_wp2
      go_ret
      exact ⟨rfl, HW.out⟩

set_option maxRecDepth 100000 in
set_option maxHeartbeats 1000000 in
theorem prints_walk (A : Option Addr) (n c : Nat) (hn : n ≤ 1152921504606846976) (w : World) (ho : ∀ i, i < n → OpAt5 w A i) (ht : Tab64 w) (h10 : Tab10 w) :
    Calls Tryz.prog 8 #[.slice A n c] w fun e w' => e = .returned (.bool true) ∧ Below w.heap.size w w' := by
  have HA := Lib.hid (awake_walk w ht h10)
  have HL := Lib.hid (fun W (h : Below w.heap.size w W) => all_walk 2 (fun ff s b m W _ hb hT hX => plays_two ff s b hb m W hT hX) A n c hn W (fun i hi => by
    obtain ⟨bk, off, kk, ff, s, b, m, e, c0, c1, c2, c3, c4, hs, hb⟩ := ho i hi
    exact ⟨bk, off, kk, ff, s, b, m, e, cell_kept h c0, cell_kept h c1, cell_kept h c2, cell_kept h c3, cell_kept h c4, hs, hb⟩) (ht.below h) (h10.below h))
  clear ho ht h10 hn
  go_enter Tryz.func8, Tryz.ntmps8
  go_wp2_with fail
  refine HA.out.mono ?_
  rintro e w1 ⟨rfl, hb1⟩
  have HW1 := Lib.hid hb1
  clear hb1
  go_wp2_with fail
  refine (HL.out _ HW1.out).mono ?_
  rintro e w2 ⟨rfl, hb2⟩
  have HW2 := Lib.hid (below_chain HW1.out hb2)
  clear hb2
  go_wp2
  go_ret
  exact ⟨rfl, HW2.out⟩
end Go.Proofs.YtmfjimmodaofdaaGreatDoor

namespace Go.Proofs.YtmfjimmodaofdaaGreatDoor
open Go.RowKit

theorem waked_nr : nrN fmD 4591870180066957722 (-20) = 10000000000000000555 := of_decide_eq_true (by kernel_rfl)
theorem waked_digs : Lib.decDigits 10000000000000000555 = [49, 48, 48, 48, 48, 48, 48, 48, 48, 48, 48, 48, 48, 48, 48, 48, 48, 53, 53, 53] := by
  rw [show Lib.decDigits 10000000000000000555 = Lib.decDigits 1000000000000000055 ++ [dgC 5] from digs_step (x := 10000000000000000555) (by decide),
    show Lib.decDigits 1000000000000000055 = Lib.decDigits 100000000000000005 ++ [dgC 5] from digs_step (x := 1000000000000000055) (by decide),
    show Lib.decDigits 100000000000000005 = Lib.decDigits 10000000000000000 ++ [dgC 5] from digs_step (x := 100000000000000005) (by decide),
    show Lib.decDigits 10000000000000000 = Lib.decDigits 1000000000000000 ++ [dgC 0] from digs_step (x := 10000000000000000) (by decide),
    show Lib.decDigits 1000000000000000 = Lib.decDigits 100000000000000 ++ [dgC 0] from digs_step (x := 1000000000000000) (by decide),
    show Lib.decDigits 100000000000000 = Lib.decDigits 10000000000000 ++ [dgC 0] from digs_step (x := 100000000000000) (by decide),
    show Lib.decDigits 10000000000000 = Lib.decDigits 1000000000000 ++ [dgC 0] from digs_step (x := 10000000000000) (by decide),
    show Lib.decDigits 1000000000000 = Lib.decDigits 100000000000 ++ [dgC 0] from digs_step (x := 1000000000000) (by decide),
    show Lib.decDigits 100000000000 = Lib.decDigits 10000000000 ++ [dgC 0] from digs_step (x := 100000000000) (by decide),
    show Lib.decDigits 10000000000 = Lib.decDigits 1000000000 ++ [dgC 0] from digs_step (x := 10000000000) (by decide),
    show Lib.decDigits 1000000000 = Lib.decDigits 100000000 ++ [dgC 0] from digs_step (x := 1000000000) (by decide),
    show Lib.decDigits 100000000 = Lib.decDigits 10000000 ++ [dgC 0] from digs_step (x := 100000000) (by decide),
    show Lib.decDigits 10000000 = Lib.decDigits 1000000 ++ [dgC 0] from digs_step (x := 10000000) (by decide),
    show Lib.decDigits 1000000 = Lib.decDigits 100000 ++ [dgC 0] from digs_step (x := 1000000) (by decide),
    show Lib.decDigits 100000 = Lib.decDigits 10000 ++ [dgC 0] from digs_step (x := 100000) (by decide),
    show Lib.decDigits 10000 = Lib.decDigits 1000 ++ [dgC 0] from digs_step (x := 10000) (by decide),
    show Lib.decDigits 1000 = Lib.decDigits 100 ++ [dgC 0] from digs_step (x := 1000) (by decide),
    show Lib.decDigits 100 = Lib.decDigits 10 ++ [dgC 0] from digs_step (x := 100) (by decide),
    show Lib.decDigits 10 = Lib.decDigits 1 ++ [dgC 0] from digs_step (x := 10) (by decide),
    show Lib.decDigits 1 = [dgC 1] from digs_last (x := 1) (by decide)]
  decide
theorem waked_digits {T : List UInt8} {k : Int} (h : DgAns fmD 4591870180066957722 20 T k) : T = [49, 46, 48, 48, 48, 48, 48, 48, 48, 48, 48, 48, 48, 48, 48, 48, 48, 48, 53, 53, 53, 101, 45, 49] ∧ k = 0 := by
  unfold DgAns at h
  rw [if_neg (by decide), show 4591870180066957722 % 2 ^ fmD.S = 4591870180066957722 from by decide, if_neg (by decide)] at h
  obtain ⟨hk, h1⟩ := h
  refine ⟨?_, hk⟩
  unfold DgOk at h1
  rw [show 4591870180066957722 % 2 ^ fmD.S = 4591870180066957722 from by decide] at h1
  obtain ⟨t, ht, _, _, e⟩ := h1.2 (by decide)
  have e1 := ten_unique ht awake_ten
  subst e1
  rw [e, if_neg (by decide)]
  rw [show (-1 : Int) - ((20 : Int).toNat : Int) + 1 = -20 by decide, waked_nr]
  unfold dgD dgX
  rw [if_neg (by decide), if_neg (by decide), waked_digs, show Lib.itoa (-1) = [45, 49] by rw [show (-1 : Int) = -((1 : Nat) : Int) from rfl, Lib.itoa_neg 1 (by decide), Lib.decDigits_one (by decide : 1 < 10)]; rfl]
  decide

set_option maxRecDepth 100000 in
set_option maxHeartbeats 1000000 in
theorem digits_walk (A : Option Addr) (n c : Nat) (hn : n ≤ 1152921504606846976) (w : World) (ho : ∀ i, i < n → OpAt5 w A i) (ht : Tab64 w) (h10 : Tab10 w) :
    Calls Tryz.prog 9 #[.slice A n c] w fun e w' => e = .returned (.bool true) ∧ Below w.heap.size w w' := by
  have HA := Lib.hid (show Calls Tryz.prog 30 #[.int .i64 64, .int .u64 4591870180066957722, .int .i64 20] w fun e w' => e = .returned (.tuple #[.string ⟨#[49, 46, 48, 48, 48, 48, 48, 48, 48, 48, 48, 48, 48, 48, 48, 48, 48, 48, 53, 53, 53, 101, 45, 49]⟩, .int .i64 0]) ∧ Below w.heap.size w w' from by
    refine (ddg_any fmD (.inr rfl) 4591870180066957722 (by decide) 20 w ht h10).mono ?_
    rintro e w' ⟨T, k, rfl, hp, hb⟩
    obtain ⟨rfl, rfl⟩ := waked_digits hp
    exact ⟨rfl, hb⟩)
  have HL := Lib.hid (fun W (h : Below w.heap.size w W) => all_walk 3 (fun ff s b m W _ hb hT hX => plays_three ff s b hb m W hT hX) A n c hn W (fun i hi => by
    obtain ⟨bk, off, kk, ff, s, b, m, e, c0, c1, c2, c3, c4, hs, hb⟩ := ho i hi
    exact ⟨bk, off, kk, ff, s, b, m, e, cell_kept h c0, cell_kept h c1, cell_kept h c2, cell_kept h c3, cell_kept h c4, hs, hb⟩) (ht.below h) (h10.below h))
  clear ho ht h10 hn
  go_enter Tryz.func9, Tryz.ntmps9
  go_wp2_with fail
  refine HA.out.mono ?_
  rintro e w1 ⟨rfl, hb1⟩
  have HW1 := Lib.hid hb1
  clear hb1
  go_wp2_with fail
  refine (HL.out _ HW1.out).mono ?_
  rintro e w2 ⟨rfl, hb2⟩
  have HW2 := Lib.hid (below_chain HW1.out hb2)
  clear hb2
  go_wp2
  go_ret
  exact ⟨rfl, HW2.out⟩
end Go.Proofs.YtmfjimmodaofdaaGreatDoor
