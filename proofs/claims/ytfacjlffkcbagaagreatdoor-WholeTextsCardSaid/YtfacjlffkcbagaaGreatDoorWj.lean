/- Plain facts: Print's text is one alone, and hardly longer than that of seventeen digits; the texts that wake WholeTexts. · hexfloat's texts of a pattern, there and back: plain contracts for the law WholeTexts. · Walks of gnomontop's helpers: format, pattern, isNaN, finite, counted; of the law WholeTexts. · The walk of the law WholeTexts (printed by gen_top.py). -/
import Derived.Test.YtfacjlffkcbagaaGreatDoorQt
import Derived.Test.YtfacjlffkcbagaaGreatDoorPy
import Derived.Test.YtfacjlffkcbagaaGreatDoorHk
import Derived.Test.YtfacjlffkcbagaaGreatDoorEr
namespace Go.Proofs.YtfacjlffkcbagaaGreatDoor

theorem sh_unique {f : Fm} {z d d' : Nat} {q q' : Int} (h : ShOk f z d q) (h' : ShOk f z d' q') : d = d' ∧ q = q' := by
  obtain ⟨t, n, h1, hn1, _, hq, hd, hno⟩ := h
  obtain ⟨t', n', h1', hn1', _, hq', hd', hno'⟩ := h'
  have e := ten_unique h1 h1'
  subst e
  have hn : n = n' := by
    rcases Nat.lt_trichotomy n n' with c | c | c
    · have := hno' n hn1 c
      rw [← hq, hd] at this
      exact absurd this (by simp)
    · exact c
    · have := hno n' hn1' c
      rw [← hq', hd'] at this
      exact absurd this (by simp)
  subst hn
  have e : q = q' := by omega
  subst e
  rw [hd] at hd'
  injection hd' with hd'
  exact ⟨hd', rfl⟩
theorem prOk_unique {f : Fm} {b : Nat} {T T' : List UInt8} (h : PrOk f b T) (h' : PrOk f b T') : T = T' := by
  obtain ⟨a1, a2, a3, a4⟩ := h
  obtain ⟨b1, b2, b3, b4⟩ := h'
  by_cases c1 : f.inf < b % 2 ^ f.S
  · rw [a1 c1, b1 c1]
  by_cases c2 : b % 2 ^ f.S = f.inf
  · rw [a2 c2, b2 c2]
  by_cases c3 : b % 2 ^ f.S = 0
  · rw [a3 c3, b3 c3]
  obtain ⟨d, q, ⟨h1, _⟩, e⟩ := a4 c3 (by omega)
  obtain ⟨d', q', ⟨h1', _⟩, e'⟩ := b4 c3 (by omega)
  obtain ⟨rfl, rfl⟩ := sh_unique h1 h1'
  rw [e, e']
theorem ptd_len (D : List UInt8) : D.length ≤ (ptd D).length ∧ (ptd D).length ≤ D.length + 1 := by
  unfold ptd
  split
  · omega
  · simp only [List.length_append, List.length_take, List.length_drop, List.length_cons, List.length_nil]; omega
theorem layS_short {D : List UInt8} {q : Int} (h1 : D.length ≤ 18) (q1 : -900 ≤ (D.length : Int) + q - 1) (q2 : (D.length : Int) + q - 1 ≤ 900) : (layS D q).length ≤ 24 := by
  unfold layS
  split
  · rw [List.length_append, List.length_replicate]; omega
  · split
    · simp only [List.length_append, List.length_take, List.length_drop, List.length_cons, List.length_nil]; omega
    · split
      · simp only [List.length_append, List.length_replicate, List.length_cons, List.length_nil]; omega
      · have := (ptd_len D).2
        have h3 : (Lib.itoa ((D.length : Int) + q - 1)).length ≤ 4 := by
          generalize (D.length : Int) + q - 1 = y at *
          rw [itoa_abs]
          have h2 := decDigits_len (m := 3) (show y.natAbs < 10 ^ 3 by omega) (by omega)
          have h4 : (if y < 0 then [45] else [] : List UInt8).length ≤ 1 := by split <;> simp
          rw [List.length_append]; omega
        simp only [List.length_append, List.length_cons, List.length_nil]; omega
/-- Print's text of a finite pattern is hardly longer than that of seventeen digits. -/
theorem prOk_short {f : Fm} {b : Nat} (hfin : ¬ f.inf ≤ b % 2 ^ f.S) {T D : List UInt8} (h : PrOk f b T) (hd : DgOk f b 17 D) : T.length ≤ D.length + 5 := by
  obtain ⟨E, y, rfl, hE, _, _, _⟩ := dg_text (by omega) hd
  have hp := (ptd_len E).1
  have hi : 1 ≤ (Lib.itoa y).length := by
    rw [itoa_abs, List.length_append]
    have : Lib.decDigits y.natAbs ≠ [] := fun e => by
      have := (dcV_digits y.natAbs).2.2.2
      exact absurd e (by simpa using this)
    have := List.length_pos_iff.2 this
    omega
  obtain ⟨_, _, t3, t4⟩ := h
  have hl : ∃ L : List UInt8, T = (if 2 ^ f.S ≤ b then [45] else []) ++ L ∧ L.length ≤ 24 := by
    by_cases c3 : b % 2 ^ f.S = 0
    · exact ⟨_, t3 c3, by simp⟩
    · obtain ⟨d, q, ⟨k1, k2, k3, k4⟩, e⟩ := t4 c3 (by omega)
      refine ⟨_, e, layS_short (Nat.le_trans (tl0_len _) (decDigits_len k2 (by omega))) ?_ ?_⟩
      · have := tl0_len (Lib.decDigits d); omega
      · have := decDigits_len k2 (by omega); omega
  obtain ⟨L, rfl, hL⟩ := hl
  simp only [List.length_append, List.length_cons, List.length_nil]
  omega
theorem half_tok : tokOf ⟨#[48, 46, 53]⟩ = some (2, false, 5, -1) := by decide
theorem half_cellS : loOk fmS 1056964608 5 (-1) ∧ hiOk fmS 1056964608 5 (-1) := of_decide_eq_true (by kernel_rfl)
theorem half_cellD : loOk fmD 4602678819172646912 5 (-1) ∧ hiOk fmD 4602678819172646912 5 (-1) := of_decide_eq_true (by kernel_rfl)
theorem half_parse {f : Fm} (hf : f.ok) {v : Nat} {e : Int} (h : ParOk f ⟨#[48, 46, 53]⟩ v e) : v = (if f.S = 31 then 1056964608 else 4602678819172646912) ∧ e = 0 := by
  unfold ParOk at h
  rw [if_neg (by decide), half_tok] at h
  obtain ⟨h1, he⟩ := h
  unfold TokP at h1
  rw [if_neg (by decide), if_neg (by decide)] at h1
  obtain ⟨p, hp, _, rfl⟩ := h1
  refine ⟨?_, he⟩
  rcases hf with h | h <;> subst h
  · rw [if_pos (by decide)]
    exact hp.unique ((cell_pat (f := fmS) (z := 1056964608) (d := 5) (q := -1) (by decide) (by decide)).2 half_cellS)
  · rw [if_neg (by decide)]
    exact hp.unique ((cell_pat (f := fmD) (z := 4602678819172646912) (d := 5) (q := -1) (by decide) (by decide)).2 half_cellD)
end Go.Proofs.YtfacjlffkcbagaaGreatDoor

namespace Go.Proofs.YtfacjlffkcbagaaGreatDoor
open Go.RowKit

/-- The pattern that the texts of a pattern are read as. -/
def wantP (f : Fm) (b : Nat) : Nat := if f.inf < b % 2 ^ f.S then f.quiet else b
theorem want_lt {f : Fm} (hf : f.ok) {b : Nat} (hb : b < 2 ^ (f.S + 1)) : wantP f b < 2 ^ (f.S + 1) := by
  unfold wantP
  split
  · rcases hf with h | h <;> subst h <;> decide
  · exact hb
theorem cls_four_S (z : Nat) : clsN 8388608 2139095040 z = 4 ↔ 2139095040 < z := cls_nan (f := fmS) (.inl rfl) z
theorem cls_four_D (z : Nat) : clsN 4503599627370496 9218868437227405312 z = 4 ↔ 9218868437227405312 < z := cls_nan (f := fmD) (.inr rfl) z
theorem hex_both_S (b : Nat) (hb : b < 4294967296) : ∃ T : List UInt8, T.length ≤ 100 ∧
    (∀ W, Tab64 W → Tab10 W → Calls Tryz.prog 10 #[.int .i64 32, .int .u64 (b : Int)] W fun e w' => e = .returned (.tuple #[.string (bs T), .int .i64 0]) ∧ Below W.heap.size W w') ∧
    (∀ W, Tab64 W → Tab10 W → Calls Tryz.prog 10 #[.int .i64 32, .int .u64 ((wantP fmS b : Nat) : Int)] W fun e w' => e = .returned (.tuple #[.string (bs T), .int .i64 0]) ∧ Below W.heap.size W w') ∧
    (∀ W, Tab64 W → Calls Tryz.prog 7 #[.int .i64 32, .string (bs T)] W fun e w' => e = .returned (.tuple #[.int .u64 ((wantP fmS b : Nat) : Int), .int .i64 0]) ∧ Below W.heap.size W w') := by
  obtain ⟨T, h1, h2, h3⟩ := print_any_S b hb
  by_cases hn : 2139095040 < b % 2147483648
  · have hw : wantP fmS b = 2143289345 := by unfold wantP; rw [if_pos (show fmS.inf < b % 2 ^ fmS.S from hn)]; decide
    rcases h3 with ⟨_, rfl⟩ | ⟨h3, _⟩
    · refine ⟨_, h1, h2, ?_, ?_⟩
      · rw [hw]
        obtain ⟨T', _, k2, k3⟩ := print_any_S 2143289345 (by decide)
        rcases k3 with ⟨_, rfl⟩ | ⟨k3, _⟩
        · exact k2
        · exact absurd ((cls_four_S _).2 (by decide)) k3
      · rw [hw]
        exact fun W hW => parse_bs 32 (.inl rfl) _ 2143289345 (by decide) (rest_read fmS (.inl rfl) false).2.2 W hW
    · exact absurd ((cls_four_S _).2 hn) h3
  · have hw : wantP fmS b = b := by unfold wantP; rw [if_neg (show ¬ fmS.inf < b % 2 ^ fmS.S from hn)]
    rcases h3 with ⟨h3, _⟩ | ⟨_, hz, hr⟩
    · exact absurd ((cls_four_S _).1 h3) hn
    · refine ⟨T, h1, h2, by rw [hw]; exact h2, ?_⟩
      have := hr fmS (.inl rfl)
      rw [back_val_S b hb hz] at this
      rw [hw]
      exact fun W hW => parse_bs 32 (.inl rfl) _ b (by omega) this W hW
theorem hex_both_D (b : Nat) (hb : b < 18446744073709551616) : ∃ T : List UInt8, T.length ≤ 100 ∧
    (∀ W, Tab64 W → Tab10 W → Calls Tryz.prog 10 #[.int .i64 64, .int .u64 (b : Int)] W fun e w' => e = .returned (.tuple #[.string (bs T), .int .i64 0]) ∧ Below W.heap.size W w') ∧
    (∀ W, Tab64 W → Tab10 W → Calls Tryz.prog 10 #[.int .i64 64, .int .u64 ((wantP fmD b : Nat) : Int)] W fun e w' => e = .returned (.tuple #[.string (bs T), .int .i64 0]) ∧ Below W.heap.size W w') ∧
    (∀ W, Tab64 W → Calls Tryz.prog 7 #[.int .i64 64, .string (bs T)] W fun e w' => e = .returned (.tuple #[.int .u64 ((wantP fmD b : Nat) : Int), .int .i64 0]) ∧ Below W.heap.size W w') := by
  obtain ⟨T, h1, h2, h3⟩ := print_any_D b hb
  by_cases hn : 9218868437227405312 < b % 9223372036854775808
  · have hw : wantP fmD b = 9221120237041090561 := by unfold wantP; rw [if_pos (show fmD.inf < b % 2 ^ fmD.S from hn)]; decide
    rcases h3 with ⟨_, rfl⟩ | ⟨h3, _⟩
    · refine ⟨_, h1, h2, ?_, ?_⟩
      · rw [hw]
        obtain ⟨T', _, k2, k3⟩ := print_any_D 9221120237041090561 (by decide)
        rcases k3 with ⟨_, rfl⟩ | ⟨k3, _⟩
        · exact k2
        · exact absurd ((cls_four_D _).2 (by decide)) k3
      · rw [hw]
        exact fun W hW => parse_bs 64 (.inr rfl) _ 9221120237041090561 (by decide) (rest_read fmD (.inr rfl) false).2.2 W hW
    · exact absurd ((cls_four_D _).2 hn) h3
  · have hw : wantP fmD b = b := by unfold wantP; rw [if_neg (show ¬ fmD.inf < b % 2 ^ fmD.S from hn)]
    rcases h3 with ⟨h3, _⟩ | ⟨_, hz, hr⟩
    · exact absurd ((cls_four_D _).1 h3) hn
    · refine ⟨T, h1, h2, by rw [hw]; exact h2, ?_⟩
      have := hr fmD (.inr rfl)
      rw [back_val_D b hb hz] at this
      rw [hw]
      exact fun W hW => parse_bs 64 (.inr rfl) _ b (by omega) this W hW
/-- Print of a pattern and of what it is read as: one text, which is read as that. -/
theorem hex_both (f : Fm) (hf : f.ok) (b : Nat) (hb : b < 2 ^ (f.S + 1)) : ∃ T : List UInt8, T.length ≤ 100 ∧
    (∀ W, Tab64 W → Tab10 W → Calls Tryz.prog 10 #[.int .i64 (fmt f), .int .u64 (b : Int)] W fun e w' => e = .returned (.tuple #[.string (bs T), .int .i64 0]) ∧ Below W.heap.size W w') ∧
    (∀ W, Tab64 W → Tab10 W → Calls Tryz.prog 10 #[.int .i64 (fmt f), .int .u64 ((wantP f b : Nat) : Int)] W fun e w' => e = .returned (.tuple #[.string (bs T), .int .i64 0]) ∧ Below W.heap.size W w') ∧
    (∀ W, Tab64 W → Calls Tryz.prog 7 #[.int .i64 (fmt f), .string (bs T)] W fun e w' => e = .returned (.tuple #[.int .u64 ((wantP f b : Nat) : Int), .int .i64 0]) ∧ Below W.heap.size W w') := by
  rcases hf with h | h <;> subst h
  · exact hex_both_S b hb
  · exact hex_both_D b hb
theorem half_hex (f : Fm) (hf : f.ok) (W : World) (ht : Tab64 W) : Calls Tryz.prog 7 #[.int .i64 (fmt f), .string ⟨#[48, 120, 49, 112, 45, 49]⟩] W fun e w' => e = .returned (.tuple #[.int .u64 (((if f.S = 31 then 1056964608 else 4602678819172646912 : Nat)) : Int), .int .i64 0]) ∧ Below W.heap.size W w' := by
  rcases hf with h | h <;> subst h
  · exact parse_bs 32 (.inl rfl) [48, 120, 49, 112, 45, 49] 1056964608 (by decide) (by decide +kernel) W ht
  · exact parse_bs 64 (.inr rfl) [48, 120, 49, 112, 45, 49] 4602678819172646912 (by decide) (by decide +kernel) W ht
/-- The decimal text of a pattern and of what it is read as is one. -/
theorem want_print {f : Fm} (hf : f.ok) {b : Nat} {T T' : List UInt8} (h : PrOk f b T) (h' : PrOk f (wantP f b) T') : T = T' := by
  unfold wantP at h'
  split at h'
  · rename_i c
    rw [h.1 c, h'.1 (by rcases hf with e | e <;> subst e <;> decide)]
  · exact prOk_unique h h'
theorem want_read {f : Fm} {b : Nat} (hb : b < 2 ^ (f.S + 1)) {T : List UInt8} (hT : PrOk f b T) {v : Nat} {k : Int} (h : ParOk f (bs T) v k) : v = wantP f b ∧ k = 0 := by
  obtain ⟨h1, _, h3, h4⟩ := back_plain hb hT h
  refine ⟨?_, h1⟩
  unfold wantP
  split
  · rename_i c; exact (h3 c).1
  · rename_i c; exact h4 (by omega)
end Go.Proofs.YtfacjlffkcbagaaGreatDoor

namespace Go.Proofs.YtfacjlffkcbagaaGreatDoor
open Go.RowKit

theorem tformat_walk (d : Bool) (w : World) : Calls Tryz.prog 4 #[.bool d] w fun e w' => e = .returned (.int .i64 (fmt (fmB d))) ∧ w' = w := by
  cases d
  · go_enter Tryz.func4, Tryz.ntmps4
    go_wp2
    go_ret
    exact ⟨rfl, rfl⟩
  · go_enter Tryz.func4, Tryz.ntmps4
    go_wp2
    go_ret
    exact ⟨rfl, rfl⟩
theorem tpattern_walk (d : Bool) (c : Nat) (hc : c < 18446744073709551616) (w : World) : Calls Tryz.prog 5 #[.int .i64 (fmt (fmB d)), .int .u64 (c : Int)] w fun e w' => e = .returned (.int .u64 ((pB d c : Nat) : Int)) ∧ w' = w := by
  have hmk := mask_at (b := c) (M := 4294967295) (S := 32) hc rfl (by omega)
  rw [show c % 2 ^ 32 = pB true c from rfl, show ((4294967295 : Nat) : Int) = 4294967295 from rfl] at hmk
  clear hc
  cases d
  · show Calls Tryz.prog 5 #[.int .i64 64, .int .u64 (c : Int)] w _
    rw [show pB false c = c from rfl]
    clear hmk
    go_enter Tryz.func5, Tryz.ntmps5
    go_wp2
    go_ret
    exact ⟨rfl, rfl⟩
  · show Calls Tryz.prog 5 #[.int .i64 32, .int .u64 (c : Int)] w _
    obtain ⟨p, hp⟩ : ∃ p, pB true c = p := ⟨_, rfl⟩
    rw [hp] at hmk ⊢
    clear hp
    go_enter Tryz.func5, Tryz.ntmps5
    go_wp2
    go_ret
    exact ⟨rfl, rfl⟩
theorem tfinite_walk (b : Nat) (hb : b < 18446744073709551616) (w : World) : Calls Tryz.prog 30 #[.int .u64 (b : Int)] w fun e w' => e = .returned (.bool (!decide (fmD.inf ≤ b % 2 ^ fmD.S))) ∧ w' = w := by
  have hmk := mask_at (b := b) (M := 9223372036854775807) (S := 63) hb rfl (by omega)
  rw [show ((9223372036854775807 : Nat) : Int) = 9223372036854775807 from rfl] at hmk
  have hv : (!decide (fmD.inf ≤ b % 2 ^ fmD.S)) = decide (((b % 2 ^ 63 : Nat) : Int) < 9218868437227405312) := by
    rw [show fmD.S = 63 from rfl, show fmD.inf = 9218868437227405312 by decide]
    by_cases c : 9218868437227405312 ≤ b % 2 ^ 63
    · rw [decide_eq_true c, decide_eq_false (by omega)]; rfl
    · rw [decide_eq_false c, decide_eq_true (by omega)]; rfl
  rw [hv]
  obtain ⟨r, hr⟩ : ∃ r, b % 2 ^ 63 = r := ⟨_, rfl⟩
  rw [hr] at hmk ⊢
  clear hr hb hv
  go_enter Tryz.func30, Tryz.ntmps30
  go_wp2
  go_ret
  exact ⟨rfl, rfl⟩
theorem tnan_walk (d : Bool) (b : Nat) (hb : b < 2 ^ ((fmB d).S + 1)) (w : World) : Calls Tryz.prog 8 #[.int .i64 (fmt (fmB d)), .int .u64 (b : Int)] w fun e w' => e = .returned (.bool (decide ((fmB d).inf < b % 2 ^ (fmB d).S))) ∧ w' = w := by
  cases d
  · show Calls Tryz.prog 8 #[.int .i64 64, .int .u64 (b : Int)] w fun e w' => e = .returned (.bool (decide (fmD.inf < b % 2 ^ fmD.S))) ∧ w' = w
    have hb : b < 18446744073709551616 := hb
    have hmk := mask_at (b := b) (M := 9223372036854775807) (S := 63) hb rfl (by omega)
    rw [show ((9223372036854775807 : Nat) : Int) = 9223372036854775807 from rfl] at hmk
    have hv : decide (fmD.inf < b % 2 ^ fmD.S) = decide ((9218868437227405312 : Int) < ((b % 2 ^ 63 : Nat) : Int)) := by
      rw [show fmD.S = 63 from rfl, show fmD.inf = 9218868437227405312 by decide]
      by_cases c : 9218868437227405312 < b % 2 ^ 63
      · rw [decide_eq_true c, decide_eq_true (by omega)]
      · rw [decide_eq_false c, decide_eq_false (by omega)]
    rw [hv]
    obtain ⟨r, hr⟩ : ∃ r, b % 2 ^ 63 = r := ⟨_, rfl⟩
    rw [hr] at hmk ⊢
    clear hr hb hv
    go_enter Tryz.func8, Tryz.ntmps8
    go_wp2
    go_ret
    exact ⟨rfl, rfl⟩
  · show Calls Tryz.prog 8 #[.int .i64 32, .int .u64 (b : Int)] w fun e w' => e = .returned (.bool (decide (fmS.inf < b % 2 ^ fmS.S))) ∧ w' = w
    have hb : b < 4294967296 := hb
    have hmk := mask_at (b := b) (M := 2147483647) (S := 31) (by omega) rfl (by omega)
    rw [show ((2147483647 : Nat) : Int) = 2147483647 from rfl] at hmk
    have hv : decide (fmS.inf < b % 2 ^ fmS.S) = decide ((2139095040 : Int) < ((b % 2 ^ 31 : Nat) : Int)) := by
      rw [show fmS.S = 31 from rfl, show fmS.inf = 2139095040 by decide]
      by_cases c : 2139095040 < b % 2 ^ 31
      · rw [decide_eq_true c, decide_eq_true (by omega)]
      · rw [decide_eq_false c, decide_eq_false (by omega)]
    rw [hv]
    obtain ⟨r, hr⟩ : ∃ r, b % 2 ^ 31 = r := ⟨_, rfl⟩
    rw [hr] at hmk ⊢
    clear hr hb hv
    go_enter Tryz.func8, Tryz.ntmps8
    go_wp2
    go_ret
    exact ⟨rfl, rfl⟩

set_option maxRecDepth 100000 in
set_option maxHeartbeats 2000000 in
theorem counted_S (b : Nat) (hb : b < 4294967296) (T : List UInt8) (hT : PrOk fmS b T) (w : World) (ht : Tab64 w) (h10 : Tab10 w) :
    Calls Tryz.prog 11 #[.int .i64 32, .int .u64 (b : Int), .string (bs T)] w fun r w' => r = .returned (.bool true) ∧ Below w.heap.size w w' := by
  have hf : fmS.ok := .inl rfl
  have hpl : b < 2 ^ (fmS.S + 1) := hb
  have hP := fun (x : ByteArray) (hx : x.size ≤ 9223372036854775807) W (h : Below w.heap.size w W) => dparse_walk fmS hf x W hx (ht.below h)
  have hD1 := ddg_any fmS hf b hpl 17 w ht h10
  have hD2 := fun W (h : Below w.heap.size w W) => ddg_any fmS hf b hpl 767 W (ht.below h) (h10.below h)
  rw [fmt_S] at hP hD1 hD2
  have hmk := mask_at (b := b) (M := 2147483647) (S := 31) (by omega) rfl (by omega)
  rw [show ((2147483647 : Nat) : Int) = 2147483647 from rfl, show (2 : Nat) ^ 31 = 2 ^ fmS.S from rfl] at hmk
  by_cases hcl : fmS.inf ≤ b % 2 ^ fmS.S
  · have hA1 : ∀ (n : Int) T k, (n = 17 ∨ n = 767) → DgAns fmS b n T k → T = [] ∧ k = 6 := fun n T k hn h => by
      unfold DgAns at h
      rwa [if_neg (by omega), if_pos hcl] at h
    have hge : ∃ r : Int, ((b % 2 ^ fmS.S : Nat) : Int) = r ∧ decide (2139095040 ≤ r) = true := ⟨_, rfl, decide_eq_true (by rw [show fmS.inf = 2139095040 by decide] at hcl; omega)⟩
    obtain ⟨r0, hr0, hge⟩ := hge
    rw [hr0] at hmk
    clear hr0
    have HP := Lib.hid hP
    have HD1 := Lib.hid hD1
    have HD2 := Lib.hid hD2
    have HA := Lib.hid hA1
    clear hP hD1 hD2 hA1 hT hb hpl hf ht h10 hcl
    obtain ⟨S, hS⟩ : ∃ S, bs T = S := ⟨_, rfl⟩
    rw [hS]
    clear hS
    go_enter Tryz.func11, Tryz.ntmps11
    go_wp2_with fail
    refine HD1.out.mono ?_
    rintro r w1 ⟨T1, k1, rfl, ha1, hb1⟩
    obtain ⟨rfl, rfl⟩ := HA.out _ _ _ (.inl rfl) ha1
    have HW1 := Lib.hid hb1
    clear ha1 hb1 HD1
    go_wp2_with fail
    refine (HD2.out _ HW1.out).mono ?_
    rintro r w2 ⟨T2, k2, rfl, ha2, hb2⟩
    obtain ⟨rfl, rfl⟩ := HA.out _ _ _ (.inr rfl) ha2
    have HW2 := Lib.hid (below_chain HW1.out hb2)
    clear ha2 hb2 HD2 HW1 HA
    have hz : (bs []).size ≤ 9223372036854775807 := by rw [bs_size]; exact Nat.zero_le _
    have HZ := Lib.hid hz
    clear hz
    generalize bs [] = Z at *
    go_wp2_with fail
    refine (HP.out Z HZ.out _ HW2.out).mono ?_
    rintro r w3 ⟨v3, k3, rfl, _, hb3⟩
    have HW3 := Lib.hid (below_chain HW2.out hb3)
    clear hb3 HW2
    go_wp2_with fail
    refine (HP.out Z HZ.out _ HW3.out).mono ?_
    rintro r w4 ⟨v4, k4, rfl, _, hb4⟩
    have HW4 := Lib.hid (below_chain HW3.out hb4)
    clear hb4 HW3 HP HZ
    go_wp2
    go_ret
    exact ⟨rfl, HW4.out⟩
  · have hA1 : ∀ (n : Int) T k, (n = 17 ∨ n = 767) → DgAns fmS b n T k → k = 0 ∧ DgOk fmS b n.toNat T := fun n T k hn h => by
      unfold DgAns at h
      rwa [if_neg (by omega), if_neg hcl] at h
    have hA2 : ∀ (n : Nat) T, (n = 17 ∨ n = 767) → DgOk fmS b n T → T.length ≤ 1000 := fun n T hn h => dg_len (by omega) (by omega) h
    have hA3 : ∀ (n : Nat) T v k, (n = 17 ∨ n = 767) → DgOk fmS b n T → ParOk fmS (bs T) v k → v = b ∧ k = 0 := fun n T v k hn h hp => by
      obtain ⟨e1, e2⟩ := dg_back hf hpl hcl (by omega) (by omega) h hp
      exact ⟨e2 (big_17 hf (by omega)), e1⟩
    have hA4 := fun D (h : DgOk fmS b 17 D) => prOk_short hcl hT h
    have hge : ∃ r : Int, ((b % 2 ^ fmS.S : Nat) : Int) = r ∧ decide (2139095040 ≤ r) = false := ⟨_, rfl, decide_eq_false (by rw [show fmS.inf = 2139095040 by decide] at hcl; omega)⟩
    obtain ⟨r0, hr0, hge⟩ := hge
    rw [hr0] at hmk
    clear hr0
    have HP := Lib.hid hP
    have HD1 := Lib.hid hD1
    have HD2 := Lib.hid hD2
    have HA := Lib.hid hA1
    have HA2 := Lib.hid hA2
    have HA3 := Lib.hid hA3
    have HA4 := Lib.hid hA4
    clear hP hD1 hD2 hA1 hA2 hA3 hA4 hT hb hpl hf ht h10 hcl
    go_enter Tryz.func11, Tryz.ntmps11
    go_wp2_with fail
    refine HD1.out.mono ?_
    rintro r w1 ⟨T1, k1, rfl, ha1, hb1⟩
    obtain ⟨rfl, h1⟩ := HA.out _ _ _ (.inl rfl) ha1
    have HT1 := Lib.hid h1
    have HW1 := Lib.hid hb1
    clear ha1 hb1 HD1 h1
    go_wp2_with fail
    refine (HD2.out _ HW1.out).mono ?_
    rintro r w2 ⟨T2, k2, rfl, ha2, hb2⟩
    obtain ⟨rfl, h2⟩ := HA.out _ _ _ (.inr rfl) ha2
    have HT2 := Lib.hid h2
    have HW2 := Lib.hid (below_chain HW1.out hb2)
    clear ha2 hb2 HD2 HW1 HA h2
    go_wp2_with fail
    refine (HP.out (bs T1) (by have := HA2.out 17 T1 (.inl rfl) HT1.out; rw [bs_size]; omega) _ HW2.out).mono ?_
    rintro r w3 ⟨v3, k3, rfl, hp3, hb3⟩
    obtain ⟨rfl, rfl⟩ := HA3.out 17 T1 _ _ (.inl rfl) HT1.out hp3
    have HW3 := Lib.hid (below_chain HW2.out hb3)
    clear hb3 HW2 hp3
    go_wp2_with fail
    refine (HP.out (bs T2) (by have := HA2.out 767 T2 (.inr rfl) HT2.out; rw [bs_size]; omega) _ HW3.out).mono ?_
    rintro r w4 ⟨v4, k4, rfl, hp4, hb4⟩
    obtain ⟨rfl, rfl⟩ := HA3.out 767 T2 _ _ (.inr rfl) HT2.out hp4
    have HW4 := Lib.hid (below_chain HW3.out hb4)
    have hl1 : (bs T1).size ≤ 1000 := by have := HA2.out 17 T1 (.inl rfl) HT1.out; rw [bs_size]; omega
    have hl2 : ((bs T).size : Int) ≤ ((bs T1).size : Int) + 5 := by have := HA4.out T1 HT1.out; rw [bs_size, bs_size]; omega
    clear hb4 HW3 HP hp4 HT2 HA3 HA2 HA4 HT1
    generalize bs T2 = S2 at *
    generalize bs T1 = S1 at *
    generalize bs T = S at *
    go_wp2
    go_ret
    exact ⟨rfl, HW4.out⟩

set_option maxRecDepth 100000 in
set_option maxHeartbeats 2000000 in
theorem counted_D (b : Nat) (hb : b < 18446744073709551616) (T : List UInt8) (hT : PrOk fmD b T) (w : World) (ht : Tab64 w) (h10 : Tab10 w) :
    Calls Tryz.prog 11 #[.int .i64 64, .int .u64 (b : Int), .string (bs T)] w fun r w' => r = .returned (.bool true) ∧ Below w.heap.size w w' := by
  have hf : fmD.ok := .inr rfl
  have hpl : b < 2 ^ (fmD.S + 1) := hb
  have hP := fun (x : ByteArray) (hx : x.size ≤ 9223372036854775807) W (h : Below w.heap.size w W) => dparse_walk fmD hf x W hx (ht.below h)
  have hD1 := ddg_any fmD hf b hpl 17 w ht h10
  have hD2 := fun W (h : Below w.heap.size w W) => ddg_any fmD hf b hpl 767 W (ht.below h) (h10.below h)
  rw [fmt_D] at hP hD1 hD2
  have hFi := fun W => tfinite_walk b hb W
  by_cases hcl : fmD.inf ≤ b % 2 ^ fmD.S
  · have hA1 : ∀ (n : Int) T k, (n = 17 ∨ n = 767) → DgAns fmD b n T k → T = [] ∧ k = 6 := fun n T k hn h => by
      unfold DgAns at h
      rwa [if_neg (by omega), if_pos hcl] at h
    rw [decide_eq_true hcl] at hFi
    have HFi := Lib.hid hFi
    clear hFi
    have HP := Lib.hid hP
    have HD1 := Lib.hid hD1
    have HD2 := Lib.hid hD2
    have HA := Lib.hid hA1
    clear hP hD1 hD2 hA1 hT hb hpl hf ht h10 hcl
    obtain ⟨S, hS⟩ : ∃ S, bs T = S := ⟨_, rfl⟩
    rw [hS]
    clear hS
    go_enter Tryz.func11, Tryz.ntmps11
    go_wp2_with fail
    refine HD1.out.mono ?_
    rintro r w1 ⟨T1, k1, rfl, ha1, hb1⟩
    obtain ⟨rfl, rfl⟩ := HA.out _ _ _ (.inl rfl) ha1
    have HW1 := Lib.hid hb1
    clear ha1 hb1 HD1
    go_wp2_with fail
    refine (HD2.out _ HW1.out).mono ?_
    rintro r w2 ⟨T2, k2, rfl, ha2, hb2⟩
    obtain ⟨rfl, rfl⟩ := HA.out _ _ _ (.inr rfl) ha2
    have HW2 := Lib.hid (below_chain HW1.out hb2)
    clear ha2 hb2 HD2 HW1 HA
    have hz : (bs []).size ≤ 9223372036854775807 := by rw [bs_size]; exact Nat.zero_le _
    have HZ := Lib.hid hz
    clear hz
    generalize bs [] = Z at *
    go_wp2_with fail
    refine (HP.out Z HZ.out _ HW2.out).mono ?_
    rintro r w3 ⟨v3, k3, rfl, _, hb3⟩
    have HW3 := Lib.hid (below_chain HW2.out hb3)
    clear hb3 HW2
    go_wp2_with fail
    refine (HP.out Z HZ.out _ HW3.out).mono ?_
    rintro r w4 ⟨v4, k4, rfl, _, hb4⟩
    have HW4 := Lib.hid (below_chain HW3.out hb4)
    clear hb4 HW3 HP HZ
    go_wp2_with fail
    refine (HFi.out _).mono ?_
    rintro r w5 ⟨rfl, rfl⟩
    go_wp2
    go_ret
    exact ⟨rfl, HW4.out⟩
  · have hA1 : ∀ (n : Int) T k, (n = 17 ∨ n = 767) → DgAns fmD b n T k → k = 0 ∧ DgOk fmD b n.toNat T := fun n T k hn h => by
      unfold DgAns at h
      rwa [if_neg (by omega), if_neg hcl] at h
    have hA2 : ∀ (n : Nat) T, (n = 17 ∨ n = 767) → DgOk fmD b n T → T.length ≤ 1000 := fun n T hn h => dg_len (by omega) (by omega) h
    have hA3 : ∀ (n : Nat) T v k, (n = 17 ∨ n = 767) → DgOk fmD b n T → ParOk fmD (bs T) v k → v = b ∧ k = 0 := fun n T v k hn h hp => by
      obtain ⟨e1, e2⟩ := dg_back hf hpl hcl (by omega) (by omega) h hp
      exact ⟨e2 (big_17 hf (by omega)), e1⟩
    have hA4 := fun D (h : DgOk fmD b 17 D) => prOk_short hcl hT h
    rw [decide_eq_false hcl] at hFi
    have HFi := Lib.hid hFi
    clear hFi
    have HP := Lib.hid hP
    have HD1 := Lib.hid hD1
    have HD2 := Lib.hid hD2
    have HA := Lib.hid hA1
    have HA2 := Lib.hid hA2
    have HA3 := Lib.hid hA3
    have HA4 := Lib.hid hA4
    clear hP hD1 hD2 hA1 hA2 hA3 hA4 hT hb hpl hf ht h10 hcl
    go_enter Tryz.func11, Tryz.ntmps11
    go_wp2_with fail
    refine HD1.out.mono ?_
    rintro r w1 ⟨T1, k1, rfl, ha1, hb1⟩
    obtain ⟨rfl, h1⟩ := HA.out _ _ _ (.inl rfl) ha1
    have HT1 := Lib.hid h1
    have HW1 := Lib.hid hb1
    clear ha1 hb1 HD1 h1
    go_wp2_with fail
    refine (HD2.out _ HW1.out).mono ?_
    rintro r w2 ⟨T2, k2, rfl, ha2, hb2⟩
    obtain ⟨rfl, h2⟩ := HA.out _ _ _ (.inr rfl) ha2
    have HT2 := Lib.hid h2
    have HW2 := Lib.hid (below_chain HW1.out hb2)
    clear ha2 hb2 HD2 HW1 HA h2
    go_wp2_with fail
    refine (HP.out (bs T1) (by have := HA2.out 17 T1 (.inl rfl) HT1.out; rw [bs_size]; omega) _ HW2.out).mono ?_
    rintro r w3 ⟨v3, k3, rfl, hp3, hb3⟩
    obtain ⟨rfl, rfl⟩ := HA3.out 17 T1 _ _ (.inl rfl) HT1.out hp3
    have HW3 := Lib.hid (below_chain HW2.out hb3)
    clear hb3 HW2 hp3
    go_wp2_with fail
    refine (HP.out (bs T2) (by have := HA2.out 767 T2 (.inr rfl) HT2.out; rw [bs_size]; omega) _ HW3.out).mono ?_
    rintro r w4 ⟨v4, k4, rfl, hp4, hb4⟩
    obtain ⟨rfl, rfl⟩ := HA3.out 767 T2 _ _ (.inr rfl) HT2.out hp4
    have HW4 := Lib.hid (below_chain HW3.out hb4)
    have hl1 : (bs T1).size ≤ 1000 := by have := HA2.out 17 T1 (.inl rfl) HT1.out; rw [bs_size]; omega
    have hl2 : ((bs T).size : Int) ≤ ((bs T1).size : Int) + 5 := by have := HA4.out T1 HT1.out; rw [bs_size, bs_size]; omega
    clear hb4 HW3 HP hp4 HT2 HA3 HA2 HA4 HT1
    generalize bs T2 = S2 at *
    generalize bs T1 = S1 at *
    generalize bs T = S at *
    go_wp2_with fail
    refine (HFi.out _).mono ?_
    rintro r w5 ⟨rfl, rfl⟩
    go_wp2
    go_ret
    exact ⟨rfl, HW4.out⟩
theorem counted_any (d : Bool) (b : Nat) (hb : b < 2 ^ ((fmB d).S + 1)) (T : List UInt8) (hT : PrOk (fmB d) b T) (w : World) (ht : Tab64 w) (h10 : Tab10 w) :
    Calls Tryz.prog 11 #[.int .i64 (fmt (fmB d)), .int .u64 (b : Int), .string (bs T)] w fun r w' => r = .returned (.bool true) ∧ Below w.heap.size w w' := by
  cases d
  · exact counted_D b hb T hT w ht h10
  · exact counted_S b hb T hT w ht h10
end Go.Proofs.YtfacjlffkcbagaaGreatDoor

namespace Go.Proofs.YtfacjlffkcbagaaGreatDoor
open Go.RowKit

set_option maxRecDepth 100000 in
set_option maxHeartbeats 8000000 in
theorem texts_walk (d : Bool) (c : Nat) (hc : c < 18446744073709551616) (w : World) (ht : Tab64 w) (h10 : Tab10 w) :
    Calls Tryz.prog 3 #[.bool d, .int .u64 (c : Int)] w fun r w' => r = .returned (.bool true) ∧ Below w.heap.size w w' := by
  have hF := tformat_walk d w
  have hPt := fun W => tpattern_walk d c hc W
  have hpl := pB_lt d hc
  have hf := fmB_ok d
  have hHd := dparse_walk (fmB d) hf ⟨#[48, 46, 53]⟩ w (by decide) ht
  have hHx := fun W (h : Below w.heap.size w W) => half_hex (fmB d) hf W (ht.below h)
  have hN := fun W => tnan_walk d (pB d c) hpl W
  have hQ := fun W => tpattern_walk d 9221120237041090561 (by decide) W
  have hPr := fun W (h : Below w.heap.size w W) => dprint_any (fmB d) hf (pB d c) hpl W (ht.below h) (h10.below h)
  have hPw : ∀ T, PrOk (fmB d) (pB d c) T → ∀ W, Below w.heap.size w W → Calls Tryz.prog 9 #[.int .i64 (fmt (fmB d)), .int .u64 ((wantP (fmB d) (pB d c) : Nat) : Int)] W fun e w' => e = .returned (.tuple #[.string (bs T), .int .i64 0]) ∧ Below W.heap.size W w' := fun T hT W h => by
    refine (dprint_any (fmB d) hf (wantP (fmB d) (pB d c)) (want_lt hf hpl) W (ht.below h) (h10.below h)).mono ?_
    rintro e w' ⟨T', rfl, hT', hb⟩
    rw [want_print hf hT hT']
    exact ⟨rfl, hb⟩
  have hR : ∀ T, PrOk (fmB d) (pB d c) T → ∀ W, Below w.heap.size w W → Calls Tryz.prog 6 #[.int .i64 (fmt (fmB d)), .string (bs T)] W fun e w' => e = .returned (.tuple #[.int .u64 ((wantP (fmB d) (pB d c) : Nat) : Int), .int .i64 0]) ∧ Below W.heap.size W w' := fun T hT W h => by
    refine (dparse_walk (fmB d) hf (bs T) W (prOk_len hT) (ht.below h)).mono ?_
    rintro e w' ⟨v, k, rfl, hp, hb⟩
    obtain ⟨rfl, rfl⟩ := want_read hpl hT hp
    exact ⟨rfl, hb⟩
  have hC := fun T (hT : PrOk (fmB d) (pB d c) T) W (h : Below w.heap.size w W) => counted_any d (pB d c) hpl T hT W (ht.below h) (h10.below h)
  obtain ⟨X, hXl, hX1, hX2, hX3⟩ := hex_both (fmB d) hf (pB d c) hpl
  have hX1 := fun W (h : Below w.heap.size w W) => hX1 W (ht.below h) (h10.below h)
  have hX2 := fun W (h : Below w.heap.size w W) => hX2 W (ht.below h) (h10.below h)
  have hX3 := fun W (h : Below w.heap.size w W) => hX3 W (ht.below h)
  have hcase : ((decide ((fmB d).inf < pB d c % 2 ^ (fmB d).S)) = false ∧ ((wantP (fmB d) (pB d c) : Nat) : Int) = ((pB d c : Nat) : Int)) ∨ ((decide ((fmB d).inf < pB d c % 2 ^ (fmB d).S)) = true ∧ d = true ∧ ((wantP (fmB d) (pB d c) : Nat) : Int) = 2143289345) ∨ ((decide ((fmB d).inf < pB d c % 2 ^ (fmB d).S)) = true ∧ d = false ∧ ((wantP (fmB d) (pB d c) : Nat) : Int) = ((pB d 9221120237041090561 : Nat) : Int)) := by
    by_cases h : (fmB d).inf < pB d c % 2 ^ (fmB d).S
    · have hw : wantP (fmB d) (pB d c) = (fmB d).quiet := by unfold wantP; rw [if_pos h]
      rw [hw, decide_eq_true h]
      clear hw h hX1 hX2 hX3 hC hR hPw hPr hN hHx hHd
      cases d
      · exact .inr (.inr ⟨rfl, rfl, by decide⟩)
      · exact .inr (.inl ⟨rfl, rfl, by decide⟩)
    · have hw : wantP (fmB d) (pB d c) = pB d c := by unfold wantP; rw [if_neg h]
      rw [hw, decide_eq_false h]
      exact .inl ⟨rfl, rfl⟩
  obtain ⟨F, hFd⟩ : ∃ F, fmB d = F := ⟨_, rfl⟩
  rw [hFd] at hF hf hHd hPr hC hcase hN
  simp only [hFd] at hPt hHx hQ hPw hR hX1 hX2 hX3
  obtain ⟨p, hp⟩ : ∃ p, pB d c = p := ⟨_, rfl⟩
  simp only [hp] at hPt hN hPr hPw hR hC hX1 hX2 hX3 hcase
  obtain ⟨q, hq⟩ : ∃ q, pB d 9221120237041090561 = q := ⟨_, rfl⟩
  simp only [hq] at hQ hcase
  obtain ⟨V, hV⟩ : ∃ V : Int, ((wantP F p : Nat) : Int) = V := ⟨_, rfl⟩
  simp only [hV] at hPw hR hX2 hX3 hcase
  obtain ⟨n, hn⟩ : ∃ n, decide (F.inf < p % 2 ^ F.S) = n := ⟨_, rfl⟩
  simp only [hn] at hN hcase
  obtain ⟨FF, hFF⟩ : ∃ FF, fmt F = FF := ⟨_, rfl⟩
  simp only [hFF] at hF hPt hHd hHx hN hQ hPr hPw hR hC hX1 hX2 hX3
  obtain ⟨h, hh⟩ : ∃ h : Nat, (if F.S = 31 then 1056964608 else 4602678819172646912 : Nat) = h := ⟨_, rfl⟩
  simp only [hh] at hHx
  have hHp : ∀ v e, ParOk F ⟨#[48, 46, 53]⟩ v e → v = h ∧ e = 0 := fun v e hp => by
    obtain ⟨e1, e2⟩ := half_parse hf hp
    exact ⟨e1.trans hh, e2⟩
  have h0 : ((h : Int) == 0) = false := by rw [beq_eq_false_iff_ne]; rw [← hh]; split <;> decide
  have HF := Lib.hid hF
  have HPt := Lib.hid hPt
  have HHd := Lib.hid hHd
  have HHx := Lib.hid hHx
  have HHp := Lib.hid hHp
  have HN := Lib.hid hN
  have HQ := Lib.hid hQ
  have HPr := Lib.hid hPr
  have HPw := Lib.hid hPw
  have HR := Lib.hid hR
  have HC := Lib.hid hC
  have HX1 := Lib.hid hX1
  have HX2 := Lib.hid hX2
  have HX3 := Lib.hid hX3
  have HK := Lib.hid hcase
  clear hF hPt hHd hHx hHp hN hQ hPr hPw hR hC hX1 hX2 hX3 hcase hFd hp hq hV hn hFF hh hXl hpl hf ht h10 hc
  go_enter Tryz.func3, Tryz.ntmps3
  go_wp2_with fail
  refine HF.out.mono ?_
  rintro r w0 ⟨rfl, hw0⟩
  have e := hw0.symm
  subst e
  clear hw0 HF
  go_wp2_with fail
  refine (HPt.out _).mono ?_
  rintro r w0 ⟨rfl, hw0⟩
  have e := hw0.symm
  subst e
  clear hw0 HPt
  go_wp2_with fail
  refine HHd.out.mono ?_
  rintro r w1 ⟨v, k, rfl, hok, hb1⟩
  obtain ⟨rfl, rfl⟩ := HHp.out _ _ hok
  have HW1 := Lib.hid hb1
  clear hb1 hok HHd HHp
  go_wp2_with fail
  refine (HHx.out _ HW1.out).mono ?_
  rintro r w2 ⟨rfl, hb2⟩
  have HW := Lib.hid (below_chain HW1.out hb2)
  clear hb2 HW1 HHx
  go_wp2_with fail
  refine (HN.out _).mono ?_
  rintro r w3 ⟨rfl, hw3⟩
  have e := hw3.symm
  subst e
  clear hw3 HN
  rcases HK.out with ⟨rfl, rfl⟩ | ⟨rfl, rfl, rfl⟩ | ⟨rfl, rfl, rfl⟩
  · clear HK HQ
    go_wp2_with fail
    refine (HPr.out _ HW.out).mono ?_
    rintro r w4 ⟨T, rfl, hT, hb4⟩
    have HT := Lib.hid hT
    have HW4 := Lib.hid (below_chain HW.out hb4)
    have HTl := Lib.hid (prOk_len hT)
    clear hT hb4 HPr HW
    go_wp2_with fail
    refine (HX1.out _ HW4.out).mono ?_
    rintro r w5 ⟨rfl, hb5⟩
    have HW5 := Lib.hid (below_chain HW4.out hb5)
    clear hb5 HX1 HW4
    go_wp2_with fail
    refine (HR.out T HT.out _ HW5.out).mono ?_
    rintro r w6 ⟨rfl, hb6⟩
    have HW6 := Lib.hid (below_chain HW5.out hb6)
    clear hb6 HR HW5
    go_wp2_with fail
    refine (HX3.out _ HW6.out).mono ?_
    rintro r w7 ⟨rfl, hb7⟩
    have HW7 := Lib.hid (below_chain HW6.out hb7)
    clear hb7 HX3 HW6
    go_wp2_with fail
    refine (HPw.out T HT.out _ HW7.out).mono ?_
    rintro r w8 ⟨rfl, hb8⟩
    have HW8 := Lib.hid (below_chain HW7.out hb8)
    clear hb8 HPw HW7
    go_wp2_with fail
    refine (HX2.out _ HW8.out).mono ?_
    rintro r w9 ⟨rfl, hb9⟩
    have HW9 := Lib.hid (below_chain HW8.out hb9)
    clear hb9 HX2 HW8
    have HC2 := Lib.hid (HC.out T HT.out _ HW9.out)
    clear HC HT HTl
    generalize bs T = S at *
    generalize bs X = S2 at *
    have hs1 : (S.toList == S.toList) = true := by simp
    have hs2 : (S2.toList == S2.toList) = true := by simp
    go_wp2_with fail
    refine HC2.out.mono ?_
    rintro r w10 ⟨rfl, hb10⟩
    have HW10 := Lib.hid (below_chain HW9.out hb10)
    clear hb10 HW9 HC2
    go_wp2
    go_ret
    exact ⟨rfl, HW10.out⟩
  · clear HK
    go_wp2_with fail
    refine (HQ.out _).mono ?_
    rintro r w3 ⟨rfl, hw3⟩
    have e := hw3.symm
    subst e
    clear hw3 HQ
    go_wp2_with fail
    refine (HPr.out _ HW.out).mono ?_
    rintro r w4 ⟨T, rfl, hT, hb4⟩
    have HT := Lib.hid hT
    have HW4 := Lib.hid (below_chain HW.out hb4)
    have HTl := Lib.hid (prOk_len hT)
    clear hT hb4 HPr HW
    go_wp2_with fail
    refine (HX1.out _ HW4.out).mono ?_
    rintro r w5 ⟨rfl, hb5⟩
    have HW5 := Lib.hid (below_chain HW4.out hb5)
    clear hb5 HX1 HW4
    go_wp2_with fail
    refine (HR.out T HT.out _ HW5.out).mono ?_
    rintro r w6 ⟨rfl, hb6⟩
    have HW6 := Lib.hid (below_chain HW5.out hb6)
    clear hb6 HR HW5
    go_wp2_with fail
    refine (HX3.out _ HW6.out).mono ?_
    rintro r w7 ⟨rfl, hb7⟩
    have HW7 := Lib.hid (below_chain HW6.out hb7)
    clear hb7 HX3 HW6
    go_wp2_with fail
    refine (HPw.out T HT.out _ HW7.out).mono ?_
    rintro r w8 ⟨rfl, hb8⟩
    have HW8 := Lib.hid (below_chain HW7.out hb8)
    clear hb8 HPw HW7
    go_wp2_with fail
    refine (HX2.out _ HW8.out).mono ?_
    rintro r w9 ⟨rfl, hb9⟩
    have HW9 := Lib.hid (below_chain HW8.out hb9)
    clear hb9 HX2 HW8
    have HC2 := Lib.hid (HC.out T HT.out _ HW9.out)
    clear HC HT HTl
    generalize bs T = S at *
    generalize bs X = S2 at *
    have hs1 : (S.toList == S.toList) = true := by simp
    have hs2 : (S2.toList == S2.toList) = true := by simp
    go_wp2_with fail
    refine HC2.out.mono ?_
    rintro r w10 ⟨rfl, hb10⟩
    have HW10 := Lib.hid (below_chain HW9.out hb10)
    clear hb10 HW9 HC2
    go_wp2
    go_ret
    exact ⟨rfl, HW10.out⟩
  · clear HK
    go_wp2_with fail
    refine (HQ.out _).mono ?_
    rintro r w3 ⟨rfl, hw3⟩
    have e := hw3.symm
    subst e
    clear hw3 HQ
    go_wp2_with fail
    refine (HPr.out _ HW.out).mono ?_
    rintro r w4 ⟨T, rfl, hT, hb4⟩
    have HT := Lib.hid hT
    have HW4 := Lib.hid (below_chain HW.out hb4)
    have HTl := Lib.hid (prOk_len hT)
    clear hT hb4 HPr HW
    go_wp2_with fail
    refine (HX1.out _ HW4.out).mono ?_
    rintro r w5 ⟨rfl, hb5⟩
    have HW5 := Lib.hid (below_chain HW4.out hb5)
    clear hb5 HX1 HW4
    go_wp2_with fail
    refine (HR.out T HT.out _ HW5.out).mono ?_
    rintro r w6 ⟨rfl, hb6⟩
    have HW6 := Lib.hid (below_chain HW5.out hb6)
    clear hb6 HR HW5
    go_wp2_with fail
    refine (HX3.out _ HW6.out).mono ?_
    rintro r w7 ⟨rfl, hb7⟩
    have HW7 := Lib.hid (below_chain HW6.out hb7)
    clear hb7 HX3 HW6
    go_wp2_with fail
    refine (HPw.out T HT.out _ HW7.out).mono ?_
    rintro r w8 ⟨rfl, hb8⟩
    have HW8 := Lib.hid (below_chain HW7.out hb8)
    clear hb8 HPw HW7
    go_wp2_with fail
    refine (HX2.out _ HW8.out).mono ?_
    rintro r w9 ⟨rfl, hb9⟩
    have HW9 := Lib.hid (below_chain HW8.out hb9)
    clear hb9 HX2 HW8
    have HC2 := Lib.hid (HC.out T HT.out _ HW9.out)
    clear HC HT HTl
    generalize bs T = S at *
    generalize bs X = S2 at *
    have hs1 : (S.toList == S.toList) = true := by simp
    have hs2 : (S2.toList == S2.toList) = true := by simp
    go_wp2_with fail
    refine HC2.out.mono ?_
    rintro r w10 ⟨rfl, hb10⟩
    have HW10 := Lib.hid (below_chain HW9.out hb10)
    clear hb10 HW9 HC2
    go_wp2
    go_ret
    exact ⟨rfl, HW10.out⟩
end Go.Proofs.YtfacjlffkcbagaaGreatDoor
