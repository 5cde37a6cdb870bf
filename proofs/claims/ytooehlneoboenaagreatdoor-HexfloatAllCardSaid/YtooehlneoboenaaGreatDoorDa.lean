/- Walks of dyadic: nought, Form, Make. -/
import Derived.Test.YtooehlneoboenaaGreatDoorMb
namespace Go.Proofs.YtooehlneoboenaaGreatDoor
open Go.RowKit

set_option maxRecDepth 100000 in
theorem nought_walk (neg : Bool) (s : Value) (a : Nat) (e : Int) (w : World) (h : NatAt w s a) :
    Calls Tryz.prog 99 #[.agg #[.bool neg, s, .int .i64 e]] w fun e w' => e = .returned (.bool (decide (a = 0))) ∧ Below w.heap.size w w' := by
  obtain ⟨A, c, rfl, hc, hr⟩ := h
  have h0 := toL_length_zero a
  have hd : (((toL a).length : Int) == 0) = decide (a = 0) := by
    by_cases hz : a = 0
    · rw [h0.2 hz]; simp [hz]
    · have : (toL a).length ≠ 0 := fun e => hz (h0.1 e)
      rw [beq_eq_false_iff_ne.2 (by omega)]; simp [hz]
  have HD := Lib.hid hd
  clear hd h0 hr
  go_enter Tryz.func99, Tryz.ntmps99
  go_wp2
  go_ret
  exact ⟨by rw [← HD.out]; rfl, below_alloc' w _⟩

set_option maxRecDepth 100000 in
theorem dform_walk (neg : Bool) (s : Value) (a : Nat) (x : Int) (w : World) (h : NatAt w s a) (hs : blen a ≤ 524288) (hn : neg = true → a ≠ 0) (hx : -1048576 ≤ x) (hx2 : x ≤ 1048576) (hodd : a ≠ 0 → a % 2 = 1) (hz0 : a = 0 → x = 0) :
    Calls Tryz.prog 84 #[.agg #[.bool neg, s, .int .i64 x]] w fun e w' => e = .returned (.bool true) ∧ Below w.heap.size w w' := by
  have H := Lib.hid h
  have hsz : (toL a).length ≤ 8192 := by rw [toL_length]; omega
  obtain ⟨A, c, rfl, hc, hr⟩ := h
  have hel := el_toL a 0
  have HR := Lib.hid hr
  have HN := Lib.hid hn
  have HO := Lib.hid hodd
  have HZ0 := Lib.hid hz0
  have HL0 := Lib.hid (toL_length_zero a)
  have HE := Lib.hid hel
  clear hr hn hodd hz0 hel
  go_enter Tryz.func84, Tryz.ntmps84
  go_wp2_with fail
  have hW0 : Below w.heap.size w (w.alloc (.cells #[.bool neg, .slice A (toL a).length c, .int .i64 x] 106)) := below_alloc' w _
  have hX : Box3 (w.alloc (.cells #[.bool neg, .slice A (toL a).length c, .int .i64 x] 106)) w.heap.size (.bool neg) (.slice A (toL a).length c) (.int .i64 x) := ⟨by simp, by simp, by simp, by simp, by simp, by simp, by simp⟩
  generalize w.alloc (.cells #[.bool neg, .slice A (toL a).length c, .int .i64 x] 106) = W0 at *
  refine (nform_walk neg _ a W0 (H.out.below hW0) hsz HN.out).mono ?_
  rintro e w1 ⟨rfl, hb1⟩
  obtain ⟨x0, x1, x2, x3, x4, x5, x6⟩ := hX.below hb1
  have hw1 := below_chain hW0 hb1
  have d1 : decide (x < -1048576) = false := decide_eq_false (by omega)
  have d2 : decide (1048576 < x) = false := decide_eq_false (by omega)
  go_wp2_with fail
  clear x0 x1 x2 x3 x4 x5 x6
  refine (nought_walk neg _ a x w1 (H.out.below hw1)).mono ?_
  rintro e w2 ⟨rfl, hb2⟩
  have hw2 := below_chain hw1 hb2
  obtain ⟨x0, x1, x2, x3, x4, x5, x6⟩ := hX.below (below_chain hb1 hb2)
  clear hX
  by_cases hz : a = 0
  · have hx0 : (x == 0) = true := by rw [beq_iff_eq]; exact HZ0.out hz
    have hd : decide (a = 0) = true := decide_eq_true hz
    clear hz
    go_wp2
    go_ret
    exact ⟨rfl, hw2⟩
  · have hd : decide (a = 0) = false := decide_eq_false hz
    have hp : 0 < (toL a).length := Nat.pos_of_ne_zero fun e => hz (HL0.out.1 e)
    obtain ⟨ad, rfl, hc2⟩ := (HR.out.below hw2) hp
    have hck : w2.cell? ad = some (.int .u64 ((el (toL a) 0 : Nat) : Int)) := by have := hc2 0 hp; simpa [Addr.add] using this
    have hodd : ((el (toL a) 0 : Nat) : Int) % 2 = 1 := by
      have h1 := HO.out hz
      have h2 := HE.out
      rw [Nat.pow_zero, Nat.div_one, W64_num] at h2
      omega
    have hlt : ((el (toL a) 0 : Nat) : Int) ≤ 18446744073709551615 := by
      have := el_lt (Wd_toL a) 0
      rw [W64_num] at this; omega
    have hand : (bits BinOp.and IntKind.u64 ((el (toL a) 0 : Nat) : Int) 1 == 1) = true := by
      rw [and_one_u64 _ (by omega) hlt, hodd]; rfl
    have hand2 : bits BinOp.and IntKind.u64 ((el (toL a) 0 : Nat) : Int) 1 = 1 := by
      rw [and_one_u64 _ (by omega) hlt, hodd]
    clear hc2 hz hodd hlt hand
    go_wp2
    go_ret
    exact ⟨rfl, hw2⟩

/-- The exponent of a * 2^x in form. -/
def dexp (a : Nat) (x : Int) : Int := if a = 0 then 0 else x + tz a

set_option maxRecDepth 100000 in
theorem make_walk (neg : Bool) (s : Value) (a : Nat) (x : Int) (w : World) (h : NatAt w s a) (ht : Tab64 w) (hs : blen a ≤ 524288) (hn : neg = true → a ≠ 0) (hx : -1500000 ≤ x) (hx2 : x ≤ 1048576) (hlo : a ≠ 0 → -1048576 ≤ x + tz a) (hhi : a ≠ 0 → x + tz a ≤ 1048576) :
    Calls Tryz.prog 55 #[.agg #[.bool neg, s], .int .i64 x] w fun e w' =>
      ∃ s', e = .returned (.tuple #[.agg #[.bool neg, s', .int .i64 (dexp a x)], .int .i64 0]) ∧ NatAt w' s' (a / 2 ^ tz a) ∧ Below w.heap.size w w' := by
  have H := Lib.hid h
  have HT := Lib.hid ht
  have hsz : (toL a).length ≤ 8192 := by rw [toL_length]; omega
  obtain ⟨A, c, rfl, hc, hr⟩ := h
  have HN := Lib.hid hn
  have HLO := Lib.hid hlo
  have HHI := Lib.hid hhi
  have HL0 := Lib.hid (toL_length_zero a)
  clear hr hn hlo hhi ht
  go_enter Tryz.func55, Tryz.ntmps55
  go_wp2_with fail
  have hW0 : Below w.heap.size w ((w.alloc (.cells #[.bool neg, .slice A (toL a).length c] 104)).alloc (.cells #[.bool false, .slice none 0 0, .int .i64 0] 106)) := below_chain (below_alloc' w _) (below_alloc' _ _)
  have hX : Box2 ((w.alloc (.cells #[.bool neg, .slice A (toL a).length c] 104)).alloc (.cells #[.bool false, .slice none 0 0, .int .i64 0] 106)) w.heap.size (.bool neg) (.slice A (toL a).length c) := ⟨by simp, by simp, by simp, by simp, by simp; omega⟩
  have hR : Box3 ((w.alloc (.cells #[.bool neg, .slice A (toL a).length c] 104)).alloc (.cells #[.bool false, .slice none 0 0, .int .i64 0] 106)) (w.heap.size + 1) (.bool false) (.slice none 0 0) (.int .i64 0) := ⟨by simp, by simp, by simp, by simp, by simp, by simp, by simp⟩
  generalize (w.alloc (.cells #[.bool neg, .slice A (toL a).length c] 104)).alloc (.cells #[.bool false, .slice none 0 0, .int .i64 0] 106) = W0 at *
  refine (nform_walk neg _ a W0 (H.out.below hW0) hsz HN.out).mono ?_
  rintro e w1 ⟨rfl, hb1⟩
  obtain ⟨x0, x1, x2, x3, x4⟩ := hX.below hb1
  obtain ⟨r0, r1, r2, r3, r4, r5, r6⟩ := hR.below hb1
  have HR := Lib.hid hR
  have HX := Lib.hid hX
  have hw1 := below_chain hW0 hb1
  clear hR hX
  by_cases hz : a = 0
  · have hl : (((toL a).length : Int) == 0) = true := by rw [beq_iff_eq]; have := HL0.out.2 hz; omega
    have hneg : neg = false := by
      cases neg
      · rfl
      · exact absurd hz (HN.out rfl)
    subst hneg
    have HZ := Lib.hid hz
    clear hz
    go_wp2_with fail
    refine bodyPost_ret (v := .tuple #[.agg #[.bool false, .slice none 0 0, .int .i64 0], .int .i64 0]) (by simp [results, Tryz.results55, go_sem, r0, r1, r2]) rfl ⟨_, by rw [dexp, if_pos HZ.out], ?_, ?_⟩
    · rw [HZ.out, Nat.zero_div]; exact NatAt.nil _
    · exact (((hw1.setCell (by simp) _).setCell (by simp) _).setCell (by simp) _)
  · have hl : (((toL a).length : Int) == 0) = false := by
      have h1 : (toL a).length ≠ 0 := fun e => hz (HL0.out.1 e)
      rw [beq_eq_false_iff_ne]; omega
    have hlo := HLO.out hz
    have hhi := HHI.out hz
    have htz : tz a ≤ 524288 := by have := tz_le hz; omega
    have HZ := Lib.hid hz
    have d1 : decide ((1048576 : Int) < x) = false := decide_eq_false (by omega)
    have d2 : decide (x < (-1572864 : Int)) = false := decide_eq_false (by omega)
    have d3 : decide (x + (tz a : Int) < (-1048576 : Int)) = false := decide_eq_false (by omega)
    have d4 : decide ((1048576 : Int) < x + (tz a : Int)) = false := decide_eq_false (by omega)
    clear hz r0 r1 r2 r3 r4 r5 r6
    go_wp2_with (go_at_call 81; refine (trail_walk _ a w1 (H.out.below hw1) (by omega) (HT.out.below hw1)).mono ?_; rintro e w3 ⟨rfl, rfl⟩)
    refine (shr_walk _ a (tz a : Int) w1 (H.out.below hw1) hsz (by omega) (by omega)).mono ?_
    rintro e w2 ⟨s2, rfl, hn2, hb2⟩
    simp only [Int.toNat_natCast] at hn2
    have hN2 := Lib.hid hn2
    obtain ⟨A2, c2, rfl, hc2, hr2⟩ := hn2
    clear hc2 hr2 x0 x1 x2 x3 x4
    obtain ⟨x0, x1, x2, x3, x4⟩ := HX.out.below (below_chain hb1 hb2)
    obtain ⟨r0, r1, r2, r3, r4, r5, r6⟩ := HR.out.below (below_chain hb1 hb2)
    go_wp2_with fail
    refine bodyPost_ret (v := .tuple #[.agg #[.bool neg, .slice A2 (toL (a / 2 ^ tz a)).length c2, .int .i64 (x + tz a)], .int .i64 0]) (by simp [results, Tryz.results55, go_sem, r0, r1, r2]) rfl ⟨_, by rw [dexp, if_neg HZ.out], ?_, ?_⟩
    · have q1 : ∀ y, (w2.setCell ⟨w.heap.size + 1, 0, none⟩ y).cell? ⟨w.heap.size + 1, 1, none⟩ = some (.slice none 0 0) := fun y => by rw [cell_other (by simp)]; exact r1
      have h2 := (hN2.out.write r0 (by simp) (.bool neg)).write (q1 _) (by simp) (.slice A2 (toL (a / 2 ^ tz a)).length c2)
      have q2 : ((w2.setCell ⟨w.heap.size + 1, 0, none⟩ (.bool neg)).setCell ⟨w.heap.size + 1, 1, none⟩ (.slice A2 (toL (a / 2 ^ tz a)).length c2)).cell? ⟨w.heap.size + 1, 2, none⟩ = some (.int .i64 0) := by rw [cell_other (by simp), cell_other (by simp)]; exact r2
      exact h2.write q2 (by simp) _
    · exact (((below_chain hw1 hb2).setCell (by simp) _).setCell (by simp) _).setCell (by simp) _
end Go.Proofs.YtooehlneoboenaaGreatDoor
