/- Walk of the law Order. -/
import Derived.Test.YtooehlneoboenaaDoorLg
import Derived.Test.YtooehlneoboenaaDoorLf
import Derived.Test.YtooehlneoboenaaDoorTc
namespace Go.Proofs.YtooehlneoboenaaDoor
open Go.RowKit Go.Sort

/-- What the three readings come to. -/
theorem order_cases (f : Int) (hf : f = 32 ∨ f = 64) (lo hi : Nat) (e : Int) (more : Nat) (h : lo ≤ hi) (hh : hi < 18446744073709551616) (e1 : -32768 ≤ e) (e2 : e ≤ 32767) (hm : more ≤ 255) :
    ∃ (x y z : Nat), x ≤ y ∧ x ≤ z ∧
      (∀ W, Tab64 W → Calls Tryd.prog 13 #[.int .i64 f, .string (bs ([48, 120] ++ hexL lo ++ ([112] ++ Lib.itoa e)))] W fun e w' => e = .returned (.tuple #[.int .u64 (x : Int), .int .i64 0]) ∧ Below W.heap.size W w') ∧
      (∀ W, Tab64 W → Calls Tryd.prog 13 #[.int .i64 f, .string (bs ([48, 120] ++ hexL hi ++ ([112] ++ Lib.itoa e)))] W fun e w' => e = .returned (.tuple #[.int .u64 (y : Int), .int .i64 0]) ∧ Below W.heap.size W w') ∧
      (∀ W, Tab64 W → Calls Tryd.prog 13 #[.int .i64 f, .string (bs ([48, 120] ++ hexL lo ++ [112] ++ Lib.itoa (e + more)))] W fun e w' => e = .returned (.tuple #[.int .u64 (z : Int), .int .i64 0]) ∧ Below W.heap.size W w') := by
  have hok := fmOf_ok hf
  have l1 := hexL_len64 (show lo < _ by omega)
  have l2 := hexL_len64 hh
  have i1 := itoa_len e (by omega) (by omega)
  have i2 := itoa_len (e + more) (by omega) (by omega)
  obtain ⟨a1, a2, a3⟩ := hexL_facts lo
  obtain ⟨b1, b2, b3⟩ := hexL_facts hi
  have t1 := text_plain (fmOf f) [] (hexL lo) 120 112 e (.inl rfl) (.inl rfl) (.inl rfl) a2 a3 (by omega) (by omega)
  have t2 := text_plain (fmOf f) [] (hexL hi) 120 112 e (.inl rfl) (.inl rfl) (.inl rfl) b2 b3 (by omega) (by omega)
  have t3 := text_plain (fmOf f) [] (hexL lo) 120 112 (e + more) (.inl rfl) (.inl rfl) (.inl rfl) a2 a3 (by omega) (by omega)
  rw [a1] at t1 t3
  rw [b1] at t2
  refine ⟨hxPat (fmOf f) lo e, hxPat (fmOf f) hi e, hxPat (fmOf f) lo (e + more), hx_digits hok e h, hx_more hok lo (by omega), fun W hW => ?_, fun W hW => ?_, fun W hW => ?_⟩
  · refine parse_bs f hf _ _ (by simp; omega) ?_ W hW
    rw [show [48, 120] ++ hexL lo ++ ([112] ++ Lib.itoa e) = [] ++ ([48, 120] ++ hexL lo ++ (112 :: Lib.itoa e)) by simp, t1]; rfl
  · refine parse_bs f hf _ _ (by simp; omega) ?_ W hW
    rw [show [48, 120] ++ hexL hi ++ ([112] ++ Lib.itoa e) = [] ++ ([48, 120] ++ hexL hi ++ (112 :: Lib.itoa e)) by simp, t2]; rfl
  · refine parse_bs f hf _ _ (by simp; omega) ?_ W hW
    rw [show [48, 120] ++ hexL lo ++ [112] ++ Lib.itoa (e + more) = [] ++ ([48, 120] ++ hexL lo ++ (112 :: Lib.itoa (e + more))) by simp, t3]; rfl

set_option maxRecDepth 100000 in
set_option maxHeartbeats 2000000 in
theorem order_main (f : Int) (hf : f = 32 ∨ f = 64) (a b : Nat) (e : Int) (more : Nat) (ha : a < 18446744073709551616) (hb : b < 18446744073709551616) (e1 : -32768 ≤ e) (e2 : e ≤ 32767) (hm : more ≤ 255) (w : World) (ht : Tab64 w) (h10 : Tab10 w) :
    Calls Tryd.prog 6 #[.int .i64 f, .int .u64 (a : Int), .int .u64 (b : Int), .int .i16 e, .int .u8 (more : Int)] w fun e w' => e = .returned (.bool true) ∧ Below w.heap.size w w' := by
  obtain ⟨lo, hlo⟩ : ∃ lo, min a b = lo := ⟨_, rfl⟩
  obtain ⟨hi, hhi⟩ : ∃ hi, max a b = hi := ⟨_, rfl⟩
  have hloi : min (a : Int) (b : Int) = (lo : Int) := by omega
  have hhii : max (a : Int) (b : Int) = (hi : Int) := by omega
  have hhb : hi < 18446744073709551616 := by omega
  have hlb : lo < 18446744073709551616 := by omega
  obtain ⟨x, y, z, hxy, hxz, hP1, hP2, hP3⟩ := order_cases f hf lo hi e more (by omega) hhb e1 e2 hm
  have P1 := Lib.hid hP1
  have P2 := Lib.hid hP2
  have P3 := Lib.hid hP3
  have HT := Lib.hid ht
  have H10 := Lib.hid h10
  have HFm := Lib.hid hf
  have HLo := Lib.hid (fun w h => fu_bs lo hlb w h)
  have HHi := Lib.hid (fun w h => fu_bs hi hhb w h)
  have HI1 := Lib.hid (fun w h => itoa_walk e (by omega) (by omega) w h)
  have HI2 := Lib.hid (fun w h => itoa_walk (e + (more : Int)) (by omega) (by omega) w h)
  have l1 := hexL_len64 hlb
  have l2 := hexL_len64 hhb
  have i1 := itoa_len e (by omega) (by omega)
  have i2 := itoa_len (e + more) (by omega) (by omega)
  have d1 : ∀ W : World, (Op.stringOp .add ⟨#[112]⟩ (bs (Lib.itoa e))).run Tryd.prog W = .ok (.string (bs ([112] ++ Lib.itoa e))) W := fun W => add_bs [112] _ (by simp; omega) W
  have d2 : ∀ W : World, (Op.stringOp .add ⟨#[48, 120]⟩ (bs (hexL lo))).run Tryd.prog W = .ok (.string (bs ([48, 120] ++ hexL lo))) W := fun W => add_bs [48, 120] _ (by simp; omega) W
  have d3 : ∀ W : World, (Op.stringOp .add ⟨#[48, 120]⟩ (bs (hexL hi))).run Tryd.prog W = .ok (.string (bs ([48, 120] ++ hexL hi))) W := fun W => add_bs [48, 120] _ (by simp; omega) W
  have d4 : ∀ W : World, (Op.stringOp .add (bs ([48, 120] ++ hexL lo)) (bs ([112] ++ Lib.itoa e))).run Tryd.prog W = .ok (.string (bs ([48, 120] ++ hexL lo ++ ([112] ++ Lib.itoa e)))) W := fun W => add_bs _ _ (by simp; omega) W
  have d5 : ∀ W : World, (Op.stringOp .add (bs ([48, 120] ++ hexL hi)) (bs ([112] ++ Lib.itoa e))).run Tryd.prog W = .ok (.string (bs ([48, 120] ++ hexL hi ++ ([112] ++ Lib.itoa e)))) W := fun W => add_bs _ _ (by simp; omega) W
  have d6 : ∀ W : World, (Op.stringOp .add (bs ([48, 120] ++ hexL lo)) ⟨#[112]⟩).run Tryd.prog W = .ok (.string (bs ([48, 120] ++ hexL lo ++ [112]))) W := fun W => add_bs _ [112] (by simp; omega) W
  have d7 : ∀ W : World, (Op.stringOp .add (bs ([48, 120] ++ hexL lo ++ [112])) (bs (Lib.itoa (e + more)))).run Tryd.prog W = .ok (.string (bs ([48, 120] ++ hexL lo ++ [112] ++ Lib.itoa (e + more)))) W := fun W => add_bs _ _ (by simp; omega) W
  generalize bs ([48, 120] ++ hexL lo ++ ([112] ++ Lib.itoa e)) = T1 at *
  generalize bs ([48, 120] ++ hexL hi ++ ([112] ++ Lib.itoa e)) = T2 at *
  generalize bs ([48, 120] ++ hexL lo ++ [112] ++ Lib.itoa (e + more)) = T3 at *
  generalize bs ([48, 120] ++ hexL lo ++ [112]) = T4 at *
  generalize bs ([48, 120] ++ hexL lo) = T5 at *
  generalize bs ([48, 120] ++ hexL hi) = T6 at *
  generalize bs ([112] ++ Lib.itoa e) = T7 at *
  generalize bs (hexL lo) = T8 at *
  generalize bs (hexL hi) = T9 at *
  generalize bs (Lib.itoa e) = T10 at *
  generalize bs (Lib.itoa (e + more)) = T11 at *
  have hxy2 : (x : Int) ≤ (y : Int) := by omega
  have hxz2 : (x : Int) ≤ (z : Int) := by omega
  clear ht h10 hf hP1 hP2 hP3 l1 l2 i1 i2 hlo hhi hxy hxz hhb hlb
  go_enter Tryd.func6, Tryd.ntmps6
  go_wp2_with fail
  refine (awake_walk w HT.out H10.out).mono ?_
  rintro e w1 ⟨rfl, hb1⟩
  have HW1 := Lib.hid hb1
  clear hb1
  go_wp2_with fail
  refine (formats_yes f HFm.out _).mono ?_
  rintro e w2 ⟨rfl, rfl⟩
  go_wp2_with fail
  refine (HI1.out _ (H10.out.below HW1.out)).mono ?_
  rintro e w2 ⟨rfl, hb2⟩
  have HW2 := Lib.hid (below_chain HW1.out hb2)
  clear hb2
  go_wp2_with fail
  refine (HLo.out _ (HT.out.below HW2.out)).mono ?_
  rintro e w3 ⟨rfl, hb3⟩
  have HW3 := Lib.hid (below_chain HW2.out hb3)
  clear hb3
  go_wp2_with fail
  refine (P1.out _ (HT.out.below HW3.out)).mono ?_
  rintro e w4 ⟨rfl, hb4⟩
  have HW4 := Lib.hid (below_chain HW3.out hb4)
  clear hb4
  go_wp2_with fail
  refine (HHi.out _ (HT.out.below HW4.out)).mono ?_
  rintro e w5 ⟨rfl, hb5⟩
  have HW5 := Lib.hid (below_chain HW4.out hb5)
  clear hb5
  go_wp2_with fail
  refine (P2.out _ (HT.out.below HW5.out)).mono ?_
  rintro e w6 ⟨rfl, hb6⟩
  have HW6 := Lib.hid (below_chain HW5.out hb6)
  clear hb6
  go_wp2_with fail
  refine (HLo.out _ (HT.out.below HW6.out)).mono ?_
  rintro e w7 ⟨rfl, hb7⟩
  have HW7 := Lib.hid (below_chain HW6.out hb7)
  clear hb7
  go_wp2_with fail
  refine (HI2.out _ (H10.out.below HW7.out)).mono ?_
  rintro e w8 ⟨rfl, hb8⟩
  have HW8 := Lib.hid (below_chain HW7.out hb8)
  clear hb8
  go_wp2_with fail
  refine (P3.out _ (HT.out.below HW8.out)).mono ?_
  rintro e w9 ⟨rfl, hb9⟩
  have HW9 := Lib.hid (below_chain HW8.out hb9)
  clear hb9
  go_wp2
  go_ret
  exact ⟨rfl, HW9.out⟩

set_option maxRecDepth 100000 in
/-- The law's walk: whatever the arguments, it answers true. -/
theorem order_walk (f : Int) (a b : Nat) (e : Int) (more : Nat) (ha : a < 18446744073709551616) (hb : b < 18446744073709551616) (e1 : -32768 ≤ e) (e2 : e ≤ 32767) (hm : more ≤ 255) (w : World) (ht : Tab64 w) (h10 : Tab10 w) :
    Calls Tryd.prog 6 #[.int .i64 f, .int .u64 (a : Int), .int .u64 (b : Int), .int .i16 e, .int .u8 (more : Int)] w fun e w' => e = .returned (.bool true) ∧ Below w.heap.size w w' := by
  by_cases hf : f = 32 ∨ f = 64
  · exact order_main f hf a b e more ha hb e1 e2 hm w ht h10
  · have HT := Lib.hid ht
    have H10 := Lib.hid h10
    have HN := Lib.hid (show f ≠ 32 ∧ f ≠ 64 from ⟨fun e => hf (.inl e), fun e => hf (.inr e)⟩)
    clear hf ht h10
    go_enter Tryd.func6, Tryd.ntmps6
    go_wp2_with fail
    refine (awake_walk w HT.out H10.out).mono ?_
    rintro e w1 ⟨rfl, hb1⟩
    go_wp2_with fail
    refine (formats_no f HN.out.1 HN.out.2 _).mono ?_
    rintro e w2 ⟨rfl, rfl⟩
    go_wp2
    go_ret
    exact ⟨rfl, hb1⟩
end Go.Proofs.YtooehlneoboenaaDoor
