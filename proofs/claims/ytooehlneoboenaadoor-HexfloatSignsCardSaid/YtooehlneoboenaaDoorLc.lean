/- Walk of the law Signs. -/
import Derived.Test.YtooehlneoboenaaDoorLg
import Derived.Test.YtooehlneoboenaaDoorLf
import Derived.Test.YtooehlneoboenaaDoorQc
import Derived.Laws.Concat
namespace Go.Proofs.YtooehlneoboenaaDoor
open Go.RowKit Go.Sort

set_option maxRecDepth 100000 in
theorem lsize_S (p : Nat) (hp : p < 2147483648) (w : World) : Calls Tryd.prog 19 #[.int .i64 32, .int .u64 ((2147483648 + p : Nat) : Int)] w fun e w' => e = .returned (.int .u64 (p : Int)) ∧ w' = w := by
  obtain ⟨y, hy⟩ : ∃ y, 2147483648 + p = y := ⟨_, rfl⟩
  have hm : (y : Int) % 2147483648 = (p : Int) := by omega
  rw [hy]
  clear hy hp
  go_enter Tryd.func19, Tryd.ntmps19
  go_wp2
  go_ret
  exact ⟨by rw [← hm]; rfl, rfl⟩
set_option maxRecDepth 100000 in
theorem lsize_D (p : Nat) (hp : p < 9223372036854775808) (w : World) : Calls Tryd.prog 19 #[.int .i64 64, .int .u64 ((9223372036854775808 + p : Nat) : Int)] w fun e w' => e = .returned (.int .u64 (p : Int)) ∧ w' = w := by
  obtain ⟨y, hy⟩ : ∃ y, 9223372036854775808 + p = y := ⟨_, rfl⟩
  have hm : (y : Int) % 9223372036854775808 = (p : Int) := by omega
  rw [hy]
  clear hy hp
  go_enter Tryd.func19, Tryd.ntmps19
  go_wp2
  go_ret
  exact ⟨by rw [← hm]; rfl, rfl⟩
/-- What the three readings come to. -/
theorem signs_cases (f : Int) (hf : f = 32 ∨ f = 64) (s : ByteArray) (hs : s.size ≤ 3999) (hfree : s.size = 0 ∨ ¬ (by8 s 0 = 45 ∨ by8 s 0 = 43)) :
    ∃ (x y z g h : Nat), (∀ W, Tab64 W → Calls Tryd.prog 13 #[.int .i64 f, .string s] W fun e w' => e = .returned (.tuple #[.int .u64 (x : Int), .int .i64 (g : Int)]) ∧ Below W.heap.size W w') ∧
      (∀ W, Tab64 W → Calls Tryd.prog 13 #[.int .i64 f, .string ((⟨#[45]⟩ : ByteArray) ++ s)] W fun e w' => e = .returned (.tuple #[.int .u64 (y : Int), .int .i64 (h : Int)]) ∧ Below W.heap.size W w') ∧
      (∀ W, Tab64 W → Calls Tryd.prog 13 #[.int .i64 f, .string ((⟨#[43]⟩ : ByteArray) ++ s)] W fun e w' => e = .returned (.tuple #[.int .u64 (z : Int), .int .i64 (h : Int)]) ∧ Below W.heap.size W w') ∧
      (((s.toList == [110, 97, 110]) = true ∧ g = 0 ∧ h = 8 ∧ y = 0 ∧ z = 0) ∨
       ((s.toList == [110, 97, 110]) = false ∧ g = 8 ∧ h = 8) ∨
       ((s.toList == [110, 97, 110]) = false ∧ g = 0 ∧ h = 0 ∧ z = x ∧ y ≠ x ∧ ∀ W, Calls Tryd.prog 19 #[.int .i64 f, .int .u64 (y : Int)] W fun e w' => e = .returned (.int .u64 (x : Int)) ∧ w' = W)) := by
  have hok : (fmOf f).ok := by rcases hf with rfl | rfl; exact .inl rfl; exact .inr rfl
  have h45 : (front 45 s).size ≤ 4000 := by rw [front_size]; omega
  have h43 : (front 43 s).size ≤ 4000 := by rw [front_size]; omega
  cases hn : (s.toList == [110, 97, 110])
  case true =>
    refine ⟨(parseOf (fmOf f) s).getD 0, 0, 0, 0, 8, fun W hW => ?_, fun W hW => ?_, fun W hW => ?_, .inl ⟨rfl, rfl, rfl, rfl, rfl⟩⟩
    · have e : parseOf (fmOf f) s = some (fmOf f).quiet := by unfold parseOf; rw [hn]; rfl
      have := parse_any f hf s (by omega) W hW
      rw [e] at this ⊢
      exact this
    · have := parse_any f hf (front 45 s) h45 W hW
      rw [front_of_nan _ (.inl rfl) hn] at this
      exact this
    · have := parse_any f hf (front 43 s) h43 W hW
      rw [front_of_nan _ (.inr rfl) hn] at this
      exact this
  case false =>
    have e45 := front_parse (fmOf f) (.inl rfl : (45 : UInt8) = 45 ∨ (45 : UInt8) = 43) hfree hn
    have e43 := front_parse (fmOf f) (.inr rfl : (43 : UInt8) = 45 ∨ (43 : UInt8) = 43) hfree hn
    cases hp : parseOf (fmOf f) s with
    | none =>
      rw [hp] at e45 e43
      refine ⟨0, 0, 0, 8, 8, fun W hW => ?_, fun W hW => ?_, fun W hW => ?_, .inr (.inl ⟨rfl, rfl, rfl⟩)⟩
      · have := parse_any f hf s (by omega) W hW
        rw [hp] at this
        exact this
      · have := parse_any f hf (front 45 s) h45 W hW
        rw [e45] at this
        exact this
      · have := parse_any f hf (front 43 s) h43 W hW
        rw [e43] at this
        exact this
    | some p =>
      rw [hp] at e45 e43
      have hsm := parse_small hok (sgn_free hfree).2 hp
      have hpp := Nat.two_pow_pos (fmOf f).S
      refine ⟨p, 2 ^ (fmOf f).S + p, p, 0, 0, fun W hW => ?_, fun W hW => ?_, fun W hW => ?_, .inr (.inr ⟨rfl, rfl, rfl, rfl, by omega, fun W => ?_⟩)⟩
      · have := parse_any f hf s (by omega) W hW
        rw [hp] at this
        exact this
      · have := parse_any f hf (front 45 s) h45 W hW
        rw [e45] at this
        exact this
      · have := parse_any f hf (front 43 s) h43 W hW
        rw [e43] at this
        exact this
      · rcases hf with rfl | rfl
        · exact lsize_S p hsm W
        · exact lsize_D p hsm W

set_option maxRecDepth 100000 in
set_option maxHeartbeats 2000000 in
theorem signs_main (f : Int) (hf : f = 32 ∨ f = 64) (s : ByteArray) (w : World) (hs : s.size ≤ 3999) (hfree : s.size = 0 ∨ ¬ (by8 s 0 = 45 ∨ by8 s 0 = 43)) (ht : Tab64 w) (h10 : Tab10 w) :
    Calls Tryd.prog 5 #[.int .i64 f, .string s] w fun e w' => e = .returned (.bool true) ∧ Below w.heap.size w w' := by
  obtain ⟨x, y, z, g, h, hP1, hP2, hP3, hcase⟩ := signs_cases f hf s hs hfree
  have P1 := Lib.hid hP1
  have P2 := Lib.hid hP2
  have P3 := Lib.hid hP3
  have HT := Lib.hid ht
  have H10 := Lib.hid h10
  have HFm := Lib.hid hf
  have HC := Lib.hid hcase
  have hs1 : ((s.size : Nat) : Int) ≤ 3999 := by omega
  obtain ⟨em, hem⟩ : ∃ em, s.toList.isEmpty = em := ⟨_, rfl⟩
  have hem2 : em = true ∨ (0 < s.size ∧ em = false) := by
    rw [← hem, empty_iff]
    by_cases h0 : s.size = 0
    · exact .inl (decide_eq_true h0)
    · exact .inr ⟨by omega, decide_eq_false h0⟩
  clear ht h10 hP1 hP2 hP3 hf hcase
  have hE : em = true ∨ (0 < s.size ∧ em = false ∧ by8 s 0 ≠ 45 ∧ by8 s 0 ≠ 43) := by
    rcases hem2 with h | ⟨h0, h⟩
    · exact .inl h
    · exact .inr ⟨h0, h, fun e => hfree.elim (fun g => by omega) (fun g => g (.inl e)), fun e => hfree.elim (fun g => by omega) (fun g => g (.inr e))⟩
  clear hem2 hfree
  rcases hE with rfl | ⟨h0, rfl, n45, n43⟩
  · go_enter Tryd.func5, Tryd.ntmps5
    go_wp2_with fail
    refine (awake_walk w HT.out H10.out).mono ?_
    rintro e w1 ⟨rfl, hb1⟩
    go_wp2_with fail
    refine (formats_yes f HFm.out _).mono ?_
    rintro e w2 ⟨rfl, rfl⟩
    have HT1 := Lib.hid (HT.out.below hb1)
    have HW1 := Lib.hid hb1
    clear hb1
    go_wp2_with fail
    refine (P1.out _ HT1.out).mono ?_
    rintro e w2 ⟨rfl, hb2⟩
    have HT2 := Lib.hid (HT1.out.below hb2)
    have HW2 := Lib.hid (below_chain HW1.out hb2)
    clear hb2
    go_wp2_with fail
    refine (P2.out _ HT2.out).mono ?_
    rintro e w3 ⟨rfl, hb3⟩
    have HT3 := Lib.hid (HT2.out.below hb3)
    have HW3 := Lib.hid (below_chain HW2.out hb3)
    clear hb3
    go_wp2_with fail
    refine (P3.out _ HT3.out).mono ?_
    rintro e w4 ⟨rfl, hb4⟩
    have HW4 := Lib.hid (below_chain HW3.out hb4)
    clear hb4
    rcases HC.out with ⟨hn, rfl, rfl, rfl, rfl⟩ | ⟨hn, rfl, rfl⟩ | ⟨hn, rfl, rfl, rfl, hne, hsz⟩
    · go_wp2
      go_ret
      exact ⟨rfl, HW4.out⟩
    · go_wp2
      go_ret
      exact ⟨rfl, HW4.out⟩
    · have HZ := Lib.hid hsz
      have hb : ((y : Int) != (z : Int)) = true := by rw [bne_iff_ne]; omega
      clear hsz hne
      go_wp2_with fail
      refine (HZ.out _).mono ?_
      rintro e w5 ⟨rfl, rfl⟩
      go_wp2
      go_ret
      exact ⟨rfl, HW4.out⟩
  · obtain ⟨c, hc⟩ : ∃ c, by8 s 0 = c := ⟨_, rfl⟩
    have hix : ∀ w, (Instr.index 9 (.string s) (.int .i64 0)).run Tryd.prog w = .ok (.int .u8 (c.toNat : Int)) w := fun w => by rw [← hc]; exact run_byte s 0 h0 (by omega) w
    rw [hc] at n45 n43
    have hb45 : (((c.toNat : Nat) : Int) == 45) = false := by
      rw [beq_eq_false_iff_ne]; intro e; exact n45 (UInt8.toNat_inj.1 (by show c.toNat = 45; omega))
    have hb43 : (((c.toNat : Nat) : Int) == 43) = false := by
      rw [beq_eq_false_iff_ne]; intro e; exact n43 (UInt8.toNat_inj.1 (by show c.toNat = 43; omega))
    clear hc n45 n43
    go_enter Tryd.func5, Tryd.ntmps5
    go_wp2_with fail
    refine (awake_walk w HT.out H10.out).mono ?_
    rintro e w1 ⟨rfl, hb1⟩
    go_wp2_with fail
    refine (formats_yes f HFm.out _).mono ?_
    rintro e w2 ⟨rfl, rfl⟩
    have HT1 := Lib.hid (HT.out.below hb1)
    have HW1 := Lib.hid hb1
    clear hb1
    go_wp2_with fail
    refine (P1.out _ HT1.out).mono ?_
    rintro e w2 ⟨rfl, hb2⟩
    have HT2 := Lib.hid (HT1.out.below hb2)
    have HW2 := Lib.hid (below_chain HW1.out hb2)
    clear hb2
    go_wp2_with fail
    refine (P2.out _ HT2.out).mono ?_
    rintro e w3 ⟨rfl, hb3⟩
    have HT3 := Lib.hid (HT2.out.below hb3)
    have HW3 := Lib.hid (below_chain HW2.out hb3)
    clear hb3
    go_wp2_with fail
    refine (P3.out _ HT3.out).mono ?_
    rintro e w4 ⟨rfl, hb4⟩
    have HW4 := Lib.hid (below_chain HW3.out hb4)
    clear hb4
    rcases HC.out with ⟨hn, rfl, rfl, rfl, rfl⟩ | ⟨hn, rfl, rfl⟩ | ⟨hn, rfl, rfl, rfl, hne, hsz⟩
    · go_wp2
      go_ret
      exact ⟨rfl, HW4.out⟩
    · go_wp2
      go_ret
      exact ⟨rfl, HW4.out⟩
    · have HZ := Lib.hid hsz
      have hb : ((y : Int) != (z : Int)) = true := by rw [bne_iff_ne]; omega
      clear hsz hne
      go_wp2_with fail
      refine (HZ.out _).mono ?_
      rintro e w5 ⟨rfl, rfl⟩
      go_wp2
      go_ret
      exact ⟨rfl, HW4.out⟩

set_option maxRecDepth 100000 in
/-- The law's walk: whatever the arguments, it answers true. -/
theorem signs_walk (f : Int) (s : ByteArray) (hs : s.size ≤ 9223372036854775807) (w : World) (ht : Tab64 w) (h10 : Tab10 w) :
    Calls Tryd.prog 5 #[.int .i64 f, .string s] w fun e w' => e = .returned (.bool true) ∧ Below w.heap.size w w' := by
  by_cases hf : f = 32 ∨ f = 64
  · by_cases h1 : s.size ≤ 3999
    · by_cases hfree : s.size = 0 ∨ ¬ (by8 s 0 = 45 ∨ by8 s 0 = 43)
      · exact signs_main f hf s w h1 hfree ht h10
      · have h0 : 0 < s.size := by
          rcases Nat.eq_zero_or_pos s.size with h | h
          · exact absurd (.inl h) hfree
          · exact h
        have hc : by8 s 0 = 45 ∨ by8 s 0 = 43 := Classical.byContradiction fun h => hfree (.inr h)
        have hem : s.toList.isEmpty = false := by rw [empty_iff]; exact decide_eq_false (by omega)
        have HT := Lib.hid ht
        have H10 := Lib.hid h10
        have HFm := Lib.hid hf
        have hs1 : ((s.size : Nat) : Int) ≤ 3999 := by omega
        clear ht h10 hf hfree
        rcases hc with hc | hc
        all_goals
          have hix : ∀ w, (Instr.index 9 (.string s) (.int .i64 0)).run Tryd.prog w = .ok (.int .u8 _) w := fun w => by have := run_byte s 0 h0 (by omega) w; rw [hc] at this; exact this
          clear hc
          go_enter Tryd.func5, Tryd.ntmps5
          go_wp2_with fail
          refine (awake_walk w HT.out H10.out).mono ?_
          rintro e w1 ⟨rfl, hb1⟩
          go_wp2_with fail
          refine (formats_yes f HFm.out _).mono ?_
          rintro e w2 ⟨rfl, rfl⟩
          go_wp2
          go_ret
          exact ⟨rfl, hb1⟩
    · have HT := Lib.hid ht
      have H10 := Lib.hid h10
      have HFm := Lib.hid hf
      have hs1 : (3999 : Int) < ((s.size : Nat) : Int) := by omega
      clear ht h10 hf
      go_enter Tryd.func5, Tryd.ntmps5
      go_wp2_with fail
      refine (awake_walk w HT.out H10.out).mono ?_
      rintro e w1 ⟨rfl, hb1⟩
      go_wp2_with fail
      refine (formats_yes f HFm.out _).mono ?_
      rintro e w2 ⟨rfl, rfl⟩
      go_wp2
      go_ret
      exact ⟨rfl, hb1⟩
  · have HT := Lib.hid ht
    have H10 := Lib.hid h10
    have HN := Lib.hid (show f ≠ 32 ∧ f ≠ 64 from ⟨fun e => hf (.inl e), fun e => hf (.inr e)⟩)
    clear hf ht h10
    go_enter Tryd.func5, Tryd.ntmps5
    go_wp2_with fail
    refine (awake_walk w HT.out H10.out).mono ?_
    rintro e w1 ⟨rfl, hb1⟩
    go_wp2_with fail
    refine (formats_no f HN.out.1 HN.out.2 _).mono ?_
    rintro e w2 ⟨rfl, rfl⟩
    go_wp2
    go_ret
    exact ⟨rfl, hb1⟩
end Go.Proofs.YtooehlneoboenaaDoor
