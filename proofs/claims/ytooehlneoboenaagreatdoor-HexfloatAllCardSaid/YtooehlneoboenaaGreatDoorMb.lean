/- Walks of num: (way).shr, NearShr, Shl. -/
import Derived.Test.YtooehlneoboenaaGreatDoorMa
namespace Go.Proofs.YtooehlneoboenaaGreatDoor
open Go.RowKit

/-- What is told of the rest of a / 2^n: -1 below, 0 at, 1 above one half. -/
def halfOf (a n : Nat) : Int := if n ≠ 0 ∧ tb a (n - 1) = true then (if tz a = n - 1 then 0 else 1) else -1
/-- a / 2^n to nearest, ties to even. -/
def rne (a n : Nat) : Nat := a / 2 ^ n + if moreN (tb (a / 2 ^ n) 0) (halfOf a n) then 1 else 0

set_option maxRecDepth 100000 in
theorem wshr_walk (s : Value) (a : Nat) (i : Int) (w : World) (h : NatAt w s a) (ht : Tab64 w) (hi : 0 ≤ i) (hi2 : i ≤ 10000000) (hb : blen a ≤ 524287) :
    Calls Tryz.prog 106 #[.int .i64 2, .agg #[.bool false, s], .int .i64 i] w fun e w' =>
      ∃ s', e = .returned (.tuple #[.agg #[.bool false, s'], .int .i64 0]) ∧ NatAt w' s' (rne a i.toNat) ∧ Below w.heap.size w w' := by
  obtain ⟨n, rfl⟩ := Int.eq_ofNat_of_zero_le hi
  have hsz : (toL a).length ≤ 8192 := by rw [toL_length]; omega
  have hq : blen (a / 2 ^ n + 1) ≤ 524288 := by
    have h1 : a / 2 ^ n + 1 ≤ a + 1 := Nat.succ_le_succ (Nat.div_le_self _ _)
    have h2 : blen (a + 1) ≤ blen a + 1 := by
      have := blen_hi a
      exact blen_le.2 (by rw [Nat.pow_succ]; have := Nat.two_pow_pos (blen a); omega)
    have := blen_mono h1
    omega
  have H := Lib.hid h
  have HT := Lib.hid ht
  have HQ := Lib.hid hq
  have htz : tz a ≤ 524287 := by
    by_cases hz : a = 0
    · rw [hz, tz_zero]; omega
    · have := tz_le hz; omega
  have hbv : (decide (0 ≤ (n : Int) - 1) && tb a ((n : Int) - 1).toNat) = decide (n ≠ 0 ∧ tb a (n - 1) = true) := by
    by_cases hn : n = 0
    · subst hn; simp
    · have e : ((n : Int) - 1).toNat = n - 1 := by omega
      have e2 : 0 ≤ (n : Int) - 1 := by omega
      have e3 : 1 ≤ (n : Int) := by omega
      rw [e]; simp [hn, e3]
  have HBV := Lib.hid hbv
  obtain ⟨A, c, rfl, hc, hr⟩ := h
  have h0 := toL_length_zero a
  have HL0 := Lib.hid h0
  clear hr hq ht h0 hbv
  have hn0 : ¬ (n : Int) < 0 := by omega
  go_enter Tryz.func106, Tryz.ntmps106
  go_wp2_with fail
  have hW0 : Below w.heap.size w ((w.alloc (.cells #[.bool false, .slice A (toL a).length c] 104)).alloc (.cells #[.bool false, .slice none 0 0] 104)) := below_chain (below_alloc' w _) (below_alloc' _ _)
  have hX : Box2 ((w.alloc (.cells #[.bool false, .slice A (toL a).length c] 104)).alloc (.cells #[.bool false, .slice none 0 0] 104)) w.heap.size (.bool false) (.slice A (toL a).length c) := ⟨by simp, by simp, by simp, by simp, by simp; omega⟩
  have hR : Box2 ((w.alloc (.cells #[.bool false, .slice A (toL a).length c] 104)).alloc (.cells #[.bool false, .slice none 0 0] 104)) (w.heap.size + 1) (.bool false) (.slice none 0 0) := ⟨by simp, by simp, by simp, by simp, by simp⟩
  generalize (w.alloc (.cells #[.bool false, .slice A (toL a).length c] 104)).alloc (.cells #[.bool false, .slice none 0 0] 104) = W0 at *
  refine (nform_walk false _ a W0 (H.out.below hW0) hsz (by simp)).mono ?_
  rintro e w1 ⟨rfl, hb1⟩
  obtain ⟨x0, x1, x2, x3, x4⟩ := hX.below hb1
  have hw1 := below_chain hW0 hb1
  go_wp2_with fail
  refine (shr_walk _ a n w1 (H.out.below hw1) hsz hi (by omega)).mono ?_
  rintro e w2 ⟨v2, rfl, hn2, hb2⟩
  simp only [Int.toNat_natCast] at hn2
  have hb12 := below_chain hb1 hb2
  have hw2 := below_chain hW0 hb12
  have HN2 := Lib.hid hn2
  have HB12 := Lib.hid hb12
  have HW2 := Lib.hid hw2
  have HX := Lib.hid hX
  have HRR := Lib.hid hR
  obtain ⟨A2, c2, rfl, hc2, hr2⟩ := hn2
  clear hr2 hc2 x0 x1 x2 x3 x4 hX hR hb12 hw2 hw1 hb1 hb2
  obtain ⟨x0, x1, x2, x3, x4⟩ := HX.out.below HB12.out
  obtain ⟨r0, r1, r2, r3, r4⟩ := HRR.out.below HB12.out
  have htr := trail_walk _ a w2 (H.out.below HW2.out) (by omega) (HT.out.below HW2.out)
  have HTR := Lib.hid htr
  have hbit := fun j (h1 : -1 ≤ j) (h2 : j ≤ 100000000) => bit_walk _ a j w2 (H.out.below HW2.out) (by omega) h1 h2
  have HBIT := Lib.hid hbit
  clear htr hbit
  have hmade := fun half sm => made_walk _ (a / 2 ^ n) sm half w2 HN2.out HQ.out
  have HMADE := Lib.hid hmade
  clear hmade
  have hmod : ∀ sm : Bool, ∀ half : Int, half = halfOf a n → ∀ Q : Ending → World → Prop, (∀ s3 w3, NatAt w3 s3 (rne a n) → Below w2.heap.size w2 w3 → Q (.returned (.tuple #[.agg #[.bool false, s3], .int .i64 0])) w3) →
      Calls Tryz.prog 110 #[.int .i64 2, .bool false, .slice A2 (toL (a / 2 ^ n)).length c2, .bool sm, .int .i64 half] w2 Q := by
    intro sm half hh Q hQ
    subst hh
    refine (HMADE.out _ sm).mono ?_
    rintro e w3 ⟨s3, rfl, h3, h4⟩
    exact hQ s3 w3 h3 h4
  have HMOD := Lib.hid hmod
  clear hmod HMADE
  by_cases hz : a = 0
  · have hlz : (toL a).length = 0 := HL0.out.2 hz
    have hl0 : ¬ (0 : Int) < ((toL a).length : Int) := by omega
    have hl1 : decide ((0 : Int) < ((toL a).length : Int)) = false := by simp [hlz]
    have hhalf : halfOf a n = -1 := by
      rw [hz]; unfold halfOf tb; simp
    have hbn : (decide (0 ≤ (n : Int) - 1) && tb a ((n : Int) - 1).toNat) = false := by
      rw [hz]; unfold tb; simp
    have HH := Lib.hid hhalf.symm
    have HB0 := Lib.hid hbn
    clear hlz hz hhalf hbn
    go_wp2_with (first | (go_at_call 109; refine (HBIT.out _ (by omega) (by omega)).mono ?_; rintro e w3 ⟨rfl, rfl⟩; rw [HB0.out]))
    refine HMOD.out _ _ HH.out _ ?_
    rintro s3 w3 hn3 hb3
    have hN3 := Lib.hid hn3
    obtain ⟨A3, c3, rfl, hc3, hr3⟩ := hn3
    clear hc3 hr3
    clear x0 x1 x2 x3 x4 r0 r1 r2 r3 r4
    obtain ⟨r0, r1, r2, r3, r4⟩ := (HRR.out.below HB12.out).below hb3
    go_wp2_with fail
    refine bodyPost_ret (v := .tuple #[.agg #[.bool false, .slice A3 (toL (rne a n)).length c3], .int .i64 0]) (by simp [results, Tryz.results106, go_sem, r0, r1]) rfl ⟨_, rfl, ?_, ?_⟩
    · have q1 : ∀ y, (w3.setCell ⟨w.heap.size + 1, 0, none⟩ y).cell? ⟨w.heap.size + 1, 1, none⟩ = some (.slice none 0 0) := fun y => by rw [cell_other (by simp)]; exact r1
      exact (hN3.out.write r0 (by simp) _).write (q1 _) (by simp) _
    · exact ((below_chain HW2.out hb3).setCell (by simp) _).setCell (by simp) _
  · have hlz : 0 < (toL a).length := Nat.pos_of_ne_zero fun e => hz (HL0.out.1 e)
    have hl0 : (0 : Int) < ((toL a).length : Int) := by omega
    clear hz
    by_cases hbt : n ≠ 0 ∧ tb a (n - 1) = true
    · have hbn : (decide (0 ≤ (n : Int) - 1) && tb a ((n : Int) - 1).toNat) = true := by rw [HBV.out]; exact decide_eq_true hbt
      have hn1 : 1 ≤ n := by omega
      have HB0 := Lib.hid hbn
      by_cases htn : tz a = n - 1
      · have HH := Lib.hid (show (0 : Int) = halfOf a n by unfold halfOf; rw [if_pos hbt, if_pos htn])
        have he : (((tz a : Nat) : Int) == (n : Int) - 1) = true := by rw [beq_iff_eq]; omega
        clear hbt hbn htn
        go_wp2_with (first | (go_at_call 81; refine HTR.out.mono ?_; rintro e w3 ⟨rfl, rfl⟩) | (go_at_call 109; refine (HBIT.out _ (by omega) (by omega)).mono ?_; rintro e w3 ⟨rfl, rfl⟩; rw [HB0.out]))
        refine HMOD.out _ _ HH.out _ ?_
        rintro s3 w3 hn3 hb3
        have hN3 := Lib.hid hn3
        obtain ⟨A3, c3, rfl, hc3, hr3⟩ := hn3
        clear hc3 hr3
        clear x0 x1 x2 x3 x4 r0 r1 r2 r3 r4
        obtain ⟨r0, r1, r2, r3, r4⟩ := (HRR.out.below HB12.out).below hb3
        go_wp2_with fail
        refine bodyPost_ret (v := .tuple #[.agg #[.bool false, .slice A3 (toL (rne a n)).length c3], .int .i64 0]) (by simp [results, Tryz.results106, go_sem, r0, r1]) rfl ⟨_, rfl, ?_, ?_⟩
        · have q1 : ∀ y, (w3.setCell ⟨w.heap.size + 1, 0, none⟩ y).cell? ⟨w.heap.size + 1, 1, none⟩ = some (.slice none 0 0) := fun y => by rw [cell_other (by simp)]; exact r1
          exact (hN3.out.write r0 (by simp) _).write (q1 _) (by simp) _
        · exact ((below_chain HW2.out hb3).setCell (by simp) _).setCell (by simp) _

      · have HH := Lib.hid (show (1 : Int) = halfOf a n by unfold halfOf; rw [if_pos hbt, if_neg htn])
        have he : (((tz a : Nat) : Int) == (n : Int) - 1) = false := by rw [beq_eq_false_iff_ne]; omega
        clear hbt hbn htn
        go_wp2_with (first | (go_at_call 81; refine HTR.out.mono ?_; rintro e w3 ⟨rfl, rfl⟩) | (go_at_call 109; refine (HBIT.out _ (by omega) (by omega)).mono ?_; rintro e w3 ⟨rfl, rfl⟩; rw [HB0.out]))
        refine HMOD.out _ _ HH.out _ ?_
        rintro s3 w3 hn3 hb3
        have hN3 := Lib.hid hn3
        obtain ⟨A3, c3, rfl, hc3, hr3⟩ := hn3
        clear hc3 hr3
        clear x0 x1 x2 x3 x4 r0 r1 r2 r3 r4
        obtain ⟨r0, r1, r2, r3, r4⟩ := (HRR.out.below HB12.out).below hb3
        go_wp2_with fail
        refine bodyPost_ret (v := .tuple #[.agg #[.bool false, .slice A3 (toL (rne a n)).length c3], .int .i64 0]) (by simp [results, Tryz.results106, go_sem, r0, r1]) rfl ⟨_, rfl, ?_, ?_⟩
        · have q1 : ∀ y, (w3.setCell ⟨w.heap.size + 1, 0, none⟩ y).cell? ⟨w.heap.size + 1, 1, none⟩ = some (.slice none 0 0) := fun y => by rw [cell_other (by simp)]; exact r1
          exact (hN3.out.write r0 (by simp) _).write (q1 _) (by simp) _
        · exact ((below_chain HW2.out hb3).setCell (by simp) _).setCell (by simp) _

    · have hbn : (decide (0 ≤ (n : Int) - 1) && tb a ((n : Int) - 1).toNat) = false := by rw [HBV.out]; exact decide_eq_false hbt
      have HB0 := Lib.hid hbn
      have HH := Lib.hid (show (-1 : Int) = halfOf a n by unfold halfOf; rw [if_neg hbt])
      clear hbt hbn
      go_wp2_with (first | (go_at_call 81; refine HTR.out.mono ?_; rintro e w3 ⟨rfl, rfl⟩) | (go_at_call 109; refine (HBIT.out _ (by omega) (by omega)).mono ?_; rintro e w3 ⟨rfl, rfl⟩; rw [HB0.out]))
      refine HMOD.out _ _ HH.out _ ?_
      rintro s3 w3 hn3 hb3
      have hN3 := Lib.hid hn3
      obtain ⟨A3, c3, rfl, hc3, hr3⟩ := hn3
      clear hc3 hr3
      clear x0 x1 x2 x3 x4 r0 r1 r2 r3 r4
      obtain ⟨r0, r1, r2, r3, r4⟩ := (HRR.out.below HB12.out).below hb3
      go_wp2_with fail
      refine bodyPost_ret (v := .tuple #[.agg #[.bool false, .slice A3 (toL (rne a n)).length c3], .int .i64 0]) (by simp [results, Tryz.results106, go_sem, r0, r1]) rfl ⟨_, rfl, ?_, ?_⟩
      · have q1 : ∀ y, (w3.setCell ⟨w.heap.size + 1, 0, none⟩ y).cell? ⟨w.heap.size + 1, 1, none⟩ = some (.slice none 0 0) := fun y => by rw [cell_other (by simp)]; exact r1
        exact (hN3.out.write r0 (by simp) _).write (q1 _) (by simp) _
      · exact ((below_chain HW2.out hb3).setCell (by simp) _).setCell (by simp) _

set_option maxRecDepth 100000 in
theorem nearshr_walk (s : Value) (a : Nat) (i : Int) (w : World) (h : NatAt w s a) (ht : Tab64 w) (hi : 0 ≤ i) (hi2 : i ≤ 10000000) (hb : blen a ≤ 524287) :
    Calls Tryz.prog 101 #[.agg #[.bool false, s], .int .i64 i] w fun e w' =>
      ∃ s', e = .returned (.tuple #[.agg #[.bool false, s'], .int .i64 0]) ∧ NatAt w' s' (rne a i.toNat) ∧ Below w.heap.size w w' := by
  have H := Lib.hid h
  have HT := Lib.hid ht
  obtain ⟨A, c, rfl, hc, hr⟩ := h
  clear hr ht
  go_enter Tryz.func101, Tryz.ntmps101
  go_wp2_with fail
  have hW0 : Below w.heap.size w ((w.alloc (.cells #[.bool false, .slice A (toL a).length c] 104)).alloc (.cells #[.bool false, .slice none 0 0] 104)) := below_chain (below_alloc' w _) (below_alloc' _ _)
  have hR : Box2 ((w.alloc (.cells #[.bool false, .slice A (toL a).length c] 104)).alloc (.cells #[.bool false, .slice none 0 0] 104)) (w.heap.size + 1) (.bool false) (.slice none 0 0) := ⟨by simp, by simp, by simp, by simp, by simp⟩
  generalize (w.alloc (.cells #[.bool false, .slice A (toL a).length c] 104)).alloc (.cells #[.bool false, .slice none 0 0] 104) = W0 at *
  refine (wshr_walk _ a i W0 (H.out.below hW0) (HT.out.below hW0) hi hi2 hb).mono ?_
  rintro e w3 ⟨s3, rfl, hn3, hb3⟩
  have hN3 := Lib.hid hn3
  obtain ⟨A3, c3, rfl, hc3, hr3⟩ := hn3
  clear hc3 hr3
  obtain ⟨r0, r1, r2, r3, r4⟩ := hR.below hb3
  clear hR
  go_wp2_with fail
  refine bodyPost_ret (v := .tuple #[.agg #[.bool false, .slice A3 (toL (rne a i.toNat)).length c3], .int .i64 0]) (by simp [results, Tryz.results101, go_sem, r0, r1]) rfl ⟨_, rfl, ?_, ?_⟩
  · have q1 : ∀ y, (w3.setCell ⟨w.heap.size + 1, 0, none⟩ y).cell? ⟨w.heap.size + 1, 1, none⟩ = some (.slice none 0 0) := fun y => by rw [cell_other (by simp)]; exact r1
    exact (hN3.out.write r0 (by simp) _).write (q1 _) (by simp) _
  · exact ((below_chain hW0 hb3).setCell (by simp) _).setCell (by simp) _

set_option maxRecDepth 100000 in
theorem nshl_walk (s : Value) (a : Nat) (i : Int) (w : World) (h : NatAt w s a) (hi : 0 ≤ i) (hb : blen a + i ≤ 524288) :
    Calls Tryz.prog 102 #[.agg #[.bool false, s], .int .i64 i] w fun e w' =>
      ∃ s', e = .returned (.tuple #[.agg #[.bool false, s'], .int .i64 0]) ∧ NatAt w' s' (a * 2 ^ i.toNat) ∧ Below w.heap.size w w' := by
  have H := Lib.hid h
  obtain ⟨A, c, rfl, hc, hr⟩ := h
  have hsz : (toL a).length ≤ 8192 := by rw [toL_length]; omega
  have hn0 : ¬ i < 0 := by omega
  clear hr
  go_enter Tryz.func102, Tryz.ntmps102
  go_wp2_with fail
  have hW0 : Below w.heap.size w ((w.alloc (.cells #[.bool false, .slice A (toL a).length c] 104)).alloc (.cells #[.bool false, .slice none 0 0] 104)) := below_chain (below_alloc' w _) (below_alloc' _ _)
  have hX : Box2 ((w.alloc (.cells #[.bool false, .slice A (toL a).length c] 104)).alloc (.cells #[.bool false, .slice none 0 0] 104)) w.heap.size (.bool false) (.slice A (toL a).length c) := ⟨by simp, by simp, by simp, by simp, by simp; omega⟩
  have hR : Box2 ((w.alloc (.cells #[.bool false, .slice A (toL a).length c] 104)).alloc (.cells #[.bool false, .slice none 0 0] 104)) (w.heap.size + 1) (.bool false) (.slice none 0 0) := ⟨by simp, by simp, by simp, by simp, by simp⟩
  generalize (w.alloc (.cells #[.bool false, .slice A (toL a).length c] 104)).alloc (.cells #[.bool false, .slice none 0 0] 104) = W0 at *
  refine (nform_walk false _ a W0 (H.out.below hW0) hsz (by simp)).mono ?_
  rintro e w1 ⟨rfl, hb1⟩
  obtain ⟨x0, x1, x2, x3, x4⟩ := hX.below hb1
  go_wp2_with fail
  refine (shl_walk _ a i w1 (H.out.below (below_chain hW0 hb1)) hi hb).mono ?_
  rintro e w2 ⟨s2, rfl, hn2, hb2⟩
  have hN2 := Lib.hid hn2
  obtain ⟨A2, c2, rfl, hc2, hr2⟩ := hn2
  clear hc2 hr2 x0 x1 x2 x3 x4
  obtain ⟨x0, x1, x2, x3, x4⟩ := hX.below (below_chain hb1 hb2)
  go_wp2_with fail
  refine (ntold_walk false _ (a * 2 ^ i.toNat) w2 hN2.out).mono ?_
  rintro e w3 ⟨rfl, hb3⟩
  simp only [Bool.false_and]
  obtain ⟨r0, r1, r2, r3, r4⟩ := hR.below (below_chain (below_chain hb1 hb2) hb3)
  clear x0 x1 x2 x3 x4 hX hR
  go_wp2_with fail
  refine bodyPost_ret (v := .tuple #[.agg #[.bool false, .slice A2 (toL (a * 2 ^ i.toNat)).length c2], .int .i64 0]) (by simp [results, Tryz.results102, go_sem, r0, r1]) rfl ⟨_, rfl, ?_, ?_⟩
  · have q1 : ∀ y, (w3.setCell ⟨w.heap.size + 1, 0, none⟩ y).cell? ⟨w.heap.size + 1, 1, none⟩ = some (.slice none 0 0) := fun y => by rw [cell_other (by simp)]; exact r1
    exact ((hN2.out.below hb3).write r0 (by simp) _).write (q1 _) (by simp) _
  · exact ((below_chain hW0 (below_chain (below_chain hb1 hb2) hb3)).setCell (by simp) _).setCell (by simp) _
end Go.Proofs.YtooehlneoboenaaGreatDoor
