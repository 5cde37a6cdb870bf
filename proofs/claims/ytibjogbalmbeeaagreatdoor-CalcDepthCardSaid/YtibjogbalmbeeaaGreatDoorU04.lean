/- Walks of num: whole, told, Form, (way).more, (way).made, (way).shr, NearShr, Shl, for numbers that are not negative where that is all that is asked. · Walks of num: (way).shr, NearShr, Shl. · Walks of dyadic: nought, Form, Make. -/
import Derived.Test.YtibjogbalmbeeaaGreatDoorU03

namespace Go.Proofs.YtibjogbalmbeeaaGreatDoor
open Go.RowKit

set_option maxRecDepth 100000 in
theorem whole_walk (neg : Bool) (v : Value) (a : Nat) (w : World) (h : NatAt w v a) :
    Calls Tryz.prog 251 #[.bool neg, v] w fun e w' => e = .returned (.agg #[.bool (neg && decide (0 < a)), v]) ∧ Below w.heap.size w w' := by
  obtain ⟨A, c, rfl, hc, hr⟩ := h
  have h0 := toL_length_zero a
  generalize toL a = l at *
  have hd : decide (0 < l.length) = decide (0 < a) := by
    by_cases hz : a = 0
    · have := h0.2 hz
      simp [hz, this]
    · have : l.length ≠ 0 := fun e => hz (h0.1 e)
      simp; omega
  have HD := Lib.hid hd
  clear hd h0 hr
  cases neg
  all_goals
    go_enter Tryz.func251, Tryz.ntmps251
    go_wp2
    refine bodyPost_ret (v := .agg #[.bool _, .slice A l.length c]) (by simp [results, Tryz.results251, go_sem]; try rfl) rfl ⟨?_, ?_⟩
    · first | rfl | (rw [← HD.out]; simp)
    · exact ((Below.refl _ _).alloc (Nat.le_refl _) _)

set_option maxRecDepth 100000 in
theorem ntold_walk (neg : Bool) (v : Value) (a : Nat) (w : World) (h : NatAt w v a) :
    Calls Tryz.prog 230 #[.bool neg, v, .int .i64 0] w fun e w' => e = .returned (.tuple #[.agg #[.bool (neg && decide (0 < a)), v], .int .i64 0]) ∧ Below w.heap.size w w' := by
  have hw := fun o => whole_walk neg v a (w.alloc o) (h.below ((Below.refl _ _).alloc (Nat.le_refl _) o))
  have HW := Lib.hid hw
  clear hw
  obtain ⟨A, c, rfl, hc, hr⟩ := h
  go_enter Tryz.func230, Tryz.ntmps230
  go_wp2_with (go_at_call 251; refine (HW.out _).mono ?_; rintro e w1 ⟨rfl, hb⟩; obtain ⟨hc1, hf1, hs1⟩ := bcell hb)
  refine bodyPost_ret (v := .tuple #[.agg #[.bool (neg && decide (0 < a)), .slice A (toL a).length c], .int .i64 0]) (by simp [results, Tryz.results230, go_sem, hc1]) rfl ⟨rfl, ?_⟩
  exact ((below_next ((Below.refl _ _).alloc (Nat.le_refl _) _) (by simp) hb).setCell (Nat.le_refl _) _).setCell (Nat.le_refl _) _

set_option maxRecDepth 100000 in
theorem nform_walk (neg : Bool) (v : Value) (a : Nat) (w : World) (h : NatAt w v a) (hs : (toL a).length ≤ 8192) (hn : neg = true → a ≠ 0) :
    Calls Tryz.prog 156 #[.agg #[.bool neg, v]] w fun e w' => e = .returned (.bool true) ∧ Below w.heap.size w w' := by
  have hf := fun o => form_walk v a (w.alloc o) (h.below ((Below.refl _ _).alloc (Nat.le_refl _) o)) hs
  have HF := Lib.hid hf
  clear hf
  obtain ⟨A, c, rfl, hc, hr⟩ := h
  have h0 := toL_length_zero a
  generalize toL a = l at *
  cases neg
  · go_enter Tryz.func156, Tryz.ntmps156
    go_wp2_with (go_at_call 78; refine (HF.out _).mono ?_; rintro e w1 ⟨rfl, rfl⟩)
    go_ret
    exact ⟨rfl, (Below.refl _ _).alloc (Nat.le_refl _) _⟩
  · have h2 : ((l.length : Int) == 0) = false := by
      have := hn rfl
      have := fun e => this (h0.1 e)
      rw [beq_eq_false_iff_ne]; omega
    clear h0 hr
    go_enter Tryz.func156, Tryz.ntmps156
    go_wp2_with (go_at_call 78; refine (HF.out _).mono ?_; rintro e w1 ⟨rfl, rfl⟩)
    go_ret
    exact ⟨rfl, (Below.refl _ _).alloc (Nat.le_refl _) _⟩
/-- Rounding to nearest: what is told of the rest: is one to be added? -/
def moreN (odd : Bool) (half : Int) : Bool := decide (0 < half) || (half == 0 && odd)

set_option maxRecDepth 100000 in
theorem more_walk (odd sm : Bool) (half : Int) (w : World) :
    Calls Tryz.prog 269 #[.int .i64 2, .bool false, .bool odd, .bool sm, .int .i64 half] w fun e w' => e = .returned (.bool (moreN odd half)) ∧ w = w' := by
  unfold moreN
  by_cases h1 : 0 < half
  · have h2 : decide (0 < half) = true := by simp [h1]
    go_enter Tryz.func269, Tryz.ntmps269
    go_wp2
    go_ret
    exact ⟨by simp [h1], rfl⟩
  · have h2 : decide (0 < half) = false := by simp [h1]
    by_cases h3 : half = 0
    · subst h3
      go_enter Tryz.func269, Tryz.ntmps269
      go_wp2
      go_ret
      exact ⟨by simp, rfl⟩
    · have h4 : (half == 0) = false := by simp [h3]
      go_enter Tryz.func269, Tryz.ntmps269
      go_wp2
      go_ret
      exact ⟨rfl, rfl⟩

/-- An Int value that is not negative. -/
def IntAt (w : World) (v : Value) (a : Nat) : Prop := ∃ s, v = .agg #[.bool false, s] ∧ NatAt w s a
theorem IntAt.below {w w1 : World} {v : Value} {a : Nat} (h : IntAt w v a) (hb : Below w.heap.size w w1) : IntAt w1 v a := by
  obtain ⟨s, e, hs⟩ := h
  exact ⟨s, e, hs.below hb⟩

set_option maxRecDepth 100000 in
theorem made_walk (v : Value) (q : Nat) (sm : Bool) (half : Int) (w : World) (h : NatAt w v q) (hq : blen (q + 1) ≤ 524288) :
    Calls Tryz.prog 265 #[.int .i64 2, .bool false, v, .bool sm, .int .i64 half] w fun e w' =>
      ∃ v', e = .returned (.tuple #[.agg #[.bool false, v'], .int .i64 0]) ∧ NatAt w' v' (q + if moreN (tb q 0) half then 1 else 0) ∧ Below w.heap.size w w' := by
  have hb0 := blen_mono (Nat.le_add_right q 1)
  have hsz : (toL q).length ≤ 8192 := by rw [toL_length]; omega
  have hbit : ∀ o, Calls Tryz.prog 44 #[v, .int .i64 0] (w.alloc o) fun e w' => e = .returned (.bool (tb q 0)) ∧ w.alloc o = w' := fun o => by
    have := bit_walk v q 0 (w.alloc o) (h.below (below_alloc' w o)) (by omega) (by omega) (by omega)
    simpa using this
  have HBit := Lib.hid hbit
  have H := Lib.hid h
  have HQ := Lib.hid hq
  clear hbit hb0 hq
  have hm := fun w => more_walk (tb q 0) sm half w
  have HM := Lib.hid hm
  clear hm
  obtain ⟨A, c, rfl, hc, hr⟩ := h
  cases hmore : moreN (tb q 0) half
  · have HX := Lib.hid hmore
    clear hmore
    go_enter Tryz.func265, Tryz.ntmps265
    go_wp2_with (first | (go_at_call 44; refine (HBit.out _).mono ?_; rintro e w1 ⟨rfl, rfl⟩) | (go_at_call 269; refine (HM.out _).mono ?_; rintro e w1 ⟨rfl, rfl⟩; rw [HX.out]))
    refine (ntold_walk false _ q _ ?c1).mono ?_
    case c1 => exact H.out.below (below_alloc' w _)
    rintro e w1 ⟨rfl, hb⟩
    simp only [Bool.false_and]
    obtain ⟨hc1, hf1, hs1⟩ := bcell hb
    go_wp2_with fail
    refine bodyPost_ret (v := .tuple #[.agg #[.bool false, .slice A (toL q).length c], .int .i64 0]) (by simp [results, Tryz.results265, go_sem, hc1]) rfl ⟨_, rfl, ?_, ?_⟩
    · have hb2 := (below_next (below_alloc' w _) (size_alloc' w _) hb)
      exact H.out.below ((hb2.setCell (Nat.le_refl _) _).setCell (Nat.le_refl _) _)
    · have hb2 := (below_next (below_alloc' w _) (size_alloc' w _) hb)
      exact (hb2.setCell (Nat.le_refl _) _).setCell (Nat.le_refl _) _
  · have HX := Lib.hid hmore
    clear hmore
    go_enter Tryz.func265, Tryz.ntmps265
    go_wp2_with (first | (go_at_call 44; refine (HBit.out _).mono ?_; rintro e w1 ⟨rfl, rfl⟩) | (go_at_call 269; refine (HM.out _).mono ?_; rintro e w1 ⟨rfl, rfl⟩; rw [HX.out]))
    refine (word_walk 1 _ (by rw [W64_num]; omega)).mono ?_
    rintro e w1 ⟨v1, rfl, hn1, hb1⟩
    have hq1 := (H.out.below (below_alloc' w _)).below hb1
    go_wp2_with fail
    refine (add_walk _ _ q 1 _ hq1 hn1 HQ.out).mono ?_
    rintro e w2 ⟨v2, rfl, hn2, hb2⟩
    have HN2 := Lib.hid hn2
    obtain ⟨A2, c2, rfl, hc2, hr2⟩ := hn2
    clear hr2 hc2 hq1
    go_wp2_with fail
    refine (ntold_walk false _ (q + 1) _ HN2.out).mono ?_
    rintro e w3 ⟨rfl, hb3⟩
    simp only [Bool.false_and]
    have hb := below_chain (below_chain hb1 hb2) hb3
    obtain ⟨hc1, hf1, hs1⟩ := bcell hb
    have hn3 := HN2.out.below hb3
    have hbw := below_chain (below_alloc' w _) hb
    have HN3 := Lib.hid hn3
    have HBW := Lib.hid hbw
    clear hn3 hbw
    go_wp2_with fail
    refine bodyPost_ret (v := .tuple #[.agg #[.bool false, .slice A2 (toL (q + 1)).length c2], .int .i64 0]) (by simp [results, Tryz.results265, go_sem, hc1]) rfl ⟨_, rfl, ?_, ?_⟩
    · have q0 : w3.cell? ⟨w.heap.size, 0, none⟩ = some (.bool false) := by rw [hc1 _ _ (by simp)]; simp
      have q1 : ∀ y, (w3.setCell ⟨w.heap.size, 0, none⟩ y).cell? ⟨w.heap.size, 1, none⟩ = some (.slice none 0 0) := fun y => by rw [cell_other (by simp), hc1 _ _ (by simp)]; simp
      exact (HN3.out.write q0 (by simp) _).write (q1 _) (by simp) _
    · exact (HBW.out.setCell (Nat.le_refl _) _).setCell (Nat.le_refl _) _
end Go.Proofs.YtibjogbalmbeeaaGreatDoor

namespace Go.Proofs.YtibjogbalmbeeaaGreatDoor
open Go.RowKit

/-- What is told of the rest of a / 2^n: -1 below, 0 at, 1 above one half. -/
def halfOf (a n : Nat) : Int := if n ≠ 0 ∧ tb a (n - 1) = true then (if tz a = n - 1 then 0 else 1) else -1
/-- a / 2^n to nearest, ties to even. -/
def rne (a n : Nat) : Nat := a / 2 ^ n + if moreN (tb (a / 2 ^ n) 0) (halfOf a n) then 1 else 0

set_option maxRecDepth 100000 in
theorem wshr_walk (s : Value) (a : Nat) (i : Int) (w : World) (h : NatAt w s a) (ht : Tab64 w) (hi : 0 ≤ i) (hi2 : i ≤ 10000000) (hb : blen a ≤ 524287) :
    Calls Tryz.prog 250 #[.int .i64 2, .agg #[.bool false, s], .int .i64 i] w fun e w' =>
      ∃ s', e = .returned (.tuple #[.agg #[.bool false, s'], .int .i64 0]) ∧ NatAt w' s' (rne a i.toNat) ∧ Below w.heap.size w w' := by
  obtain ⟨n, rfl⟩ := Int.eq_ofNat_of_zero_le hi
  have hsz : (toL a).length ≤ 8192 := by rw [toL_length]; omega
  have hq : blen (a / 2 ^ n + 1) ≤ 524288 := by
    have h1 : a / 2 ^ n + 1 ≤ a + 1 := Nat.succ_le_succ (Nat.div_le_self _ _)
    have h2 : blen (a + 1) ≤ blen a + 1 := by
      have := blen_hi a
      exact blen_le.2 (by rw [Nat.pow_succ]; have := Nat.two_pow_pos (blen a); omega)
    have := blen_mono h1
    omega
  have H := Lib.hid h
  have HT := Lib.hid ht
  have HQ := Lib.hid hq
  have htz : tz a ≤ 524287 := by
    by_cases hz : a = 0
    · rw [hz, tz_zero]; omega
    · have := tz_le hz; omega
  have hbv : (decide (0 ≤ (n : Int) - 1) && tb a ((n : Int) - 1).toNat) = decide (n ≠ 0 ∧ tb a (n - 1) = true) := by
    by_cases hn : n = 0
    · subst hn; simp
    · have e : ((n : Int) - 1).toNat = n - 1 := by omega
      have e2 : 0 ≤ (n : Int) - 1 := by omega
      have e3 : 1 ≤ (n : Int) := by omega
      rw [e]; simp [hn, e3]
  have HBV := Lib.hid hbv
  obtain ⟨A, c, rfl, hc, hr⟩ := h
  have h0 := toL_length_zero a
  have HL0 := Lib.hid h0
  clear hr hq ht h0 hbv
  have hn0 : ¬ (n : Int) < 0 := by omega
  go_enter Tryz.func250, Tryz.ntmps250
  go_wp2_with fail
  have hW0 : Below w.heap.size w ((w.alloc (.cells #[.bool false, .slice A (toL a).length c] 84)).alloc (.cells #[.bool false, .slice none 0 0] 84)) := below_chain (below_alloc' w _) (below_alloc' _ _)
  have hX : Box2 ((w.alloc (.cells #[.bool false, .slice A (toL a).length c] 84)).alloc (.cells #[.bool false, .slice none 0 0] 84)) w.heap.size (.bool false) (.slice A (toL a).length c) := ⟨by simp, by simp, by simp, by simp, by simp; omega⟩
  have hR : Box2 ((w.alloc (.cells #[.bool false, .slice A (toL a).length c] 84)).alloc (.cells #[.bool false, .slice none 0 0] 84)) (w.heap.size + 1) (.bool false) (.slice none 0 0) := ⟨by simp, by simp, by simp, by simp, by simp⟩
  generalize (w.alloc (.cells #[.bool false, .slice A (toL a).length c] 84)).alloc (.cells #[.bool false, .slice none 0 0] 84) = W0 at *
  refine (nform_walk false _ a W0 (H.out.below hW0) hsz (by simp)).mono ?_
  rintro e w1 ⟨rfl, hb1⟩
  obtain ⟨x0, x1, x2, x3, x4⟩ := hX.below hb1
  have hw1 := below_chain hW0 hb1
  go_wp2_with fail
  refine (shr_walk _ a n w1 (H.out.below hw1) hsz hi (by omega)).mono ?_
  rintro e w2 ⟨v2, rfl, hn2, hb2⟩
  simp only [Int.toNat_natCast] at hn2
  have hb12 := below_chain hb1 hb2
  have hw2 := below_chain hW0 hb12
  have HN2 := Lib.hid hn2
  have HB12 := Lib.hid hb12
  have HW2 := Lib.hid hw2
  have HX := Lib.hid hX
  have HRR := Lib.hid hR
  obtain ⟨A2, c2, rfl, hc2, hr2⟩ := hn2
  clear hr2 hc2 x0 x1 x2 x3 x4 hX hR hb12 hw2 hw1 hb1 hb2
  obtain ⟨x0, x1, x2, x3, x4⟩ := HX.out.below HB12.out
  obtain ⟨r0, r1, r2, r3, r4⟩ := HRR.out.below HB12.out
  have htr := trail_walk _ a w2 (H.out.below HW2.out) (by omega) (HT.out.below HW2.out)
  have HTR := Lib.hid htr
  have hbit := fun j (h1 : -1 ≤ j) (h2 : j ≤ 100000000) => bit_walk _ a j w2 (H.out.below HW2.out) (by omega) h1 h2
  have HBIT := Lib.hid hbit
  clear htr hbit
  have hmade := fun half sm => made_walk _ (a / 2 ^ n) sm half w2 HN2.out HQ.out
  have HMADE := Lib.hid hmade
  clear hmade
  have hmod : ∀ sm : Bool, ∀ half : Int, half = halfOf a n → ∀ Q : Ending → World → Prop, (∀ s3 w3, NatAt w3 s3 (rne a n) → Below w2.heap.size w2 w3 → Q (.returned (.tuple #[.agg #[.bool false, s3], .int .i64 0])) w3) →
      Calls Tryz.prog 265 #[.int .i64 2, .bool false, .slice A2 (toL (a / 2 ^ n)).length c2, .bool sm, .int .i64 half] w2 Q := by
    intro sm half hh Q hQ
    subst hh
    refine (HMADE.out _ sm).mono ?_
    rintro e w3 ⟨s3, rfl, h3, h4⟩
    exact hQ s3 w3 h3 h4
  have HMOD := Lib.hid hmod
  clear hmod HMADE
  by_cases hz : a = 0
  · have hlz : (toL a).length = 0 := HL0.out.2 hz
    have hl0 : ¬ (0 : Int) < ((toL a).length : Int) := by omega
    have hl1 : decide ((0 : Int) < ((toL a).length : Int)) = false := by simp [hlz]
    have hhalf : halfOf a n = -1 := by
      rw [hz]; unfold halfOf tb; simp
    have hbn : (decide (0 ≤ (n : Int) - 1) && tb a ((n : Int) - 1).toNat) = false := by
      rw [hz]; unfold tb; simp
    have HH := Lib.hid hhalf.symm
    have HB0 := Lib.hid hbn
    clear hlz hz hhalf hbn
    go_wp2_with (first | (go_at_call 44; refine (HBIT.out _ (by omega) (by omega)).mono ?_; rintro e w3 ⟨rfl, rfl⟩; rw [HB0.out]))
    refine HMOD.out _ _ HH.out _ ?_
    rintro s3 w3 hn3 hb3
    have hN3 := Lib.hid hn3
    obtain ⟨A3, c3, rfl, hc3, hr3⟩ := hn3
    clear hc3 hr3
    clear x0 x1 x2 x3 x4 r0 r1 r2 r3 r4
    obtain ⟨r0, r1, r2, r3, r4⟩ := (HRR.out.below HB12.out).below hb3
    go_wp2_with fail
    refine bodyPost_ret (v := .tuple #[.agg #[.bool false, .slice A3 (toL (rne a n)).length c3], .int .i64 0]) (by simp [results, Tryz.results250, go_sem, r0, r1]) rfl ⟨_, rfl, ?_, ?_⟩
    · have q1 : ∀ y, (w3.setCell ⟨w.heap.size + 1, 0, none⟩ y).cell? ⟨w.heap.size + 1, 1, none⟩ = some (.slice none 0 0) := fun y => by rw [cell_other (by simp)]; exact r1
      exact (hN3.out.write r0 (by simp) _).write (q1 _) (by simp) _
    · exact ((below_chain HW2.out hb3).setCell (by simp) _).setCell (by simp) _
  · have hlz : 0 < (toL a).length := Nat.pos_of_ne_zero fun e => hz (HL0.out.1 e)
    have hl0 : (0 : Int) < ((toL a).length : Int) := by omega
    clear hz
    by_cases hbt : n ≠ 0 ∧ tb a (n - 1) = true
    · have hbn : (decide (0 ≤ (n : Int) - 1) && tb a ((n : Int) - 1).toNat) = true := by rw [HBV.out]; exact decide_eq_true hbt
      have hn1 : 1 ≤ n := by omega
      have HB0 := Lib.hid hbn
      by_cases htn : tz a = n - 1
      · have HH := Lib.hid (show (0 : Int) = halfOf a n by unfold halfOf; rw [if_pos hbt, if_pos htn])
        have he : (((tz a : Nat) : Int) == (n : Int) - 1) = true := by rw [beq_iff_eq]; omega
        clear hbt hbn htn
        go_wp2_with (first | (go_at_call 157; refine HTR.out.mono ?_; rintro e w3 ⟨rfl, rfl⟩) | (go_at_call 44; refine (HBIT.out _ (by omega) (by omega)).mono ?_; rintro e w3 ⟨rfl, rfl⟩; rw [HB0.out]))
        refine HMOD.out _ _ HH.out _ ?_
        rintro s3 w3 hn3 hb3
        have hN3 := Lib.hid hn3
        obtain ⟨A3, c3, rfl, hc3, hr3⟩ := hn3
        clear hc3 hr3
        clear x0 x1 x2 x3 x4 r0 r1 r2 r3 r4
        obtain ⟨r0, r1, r2, r3, r4⟩ := (HRR.out.below HB12.out).below hb3
        go_wp2_with fail
        refine bodyPost_ret (v := .tuple #[.agg #[.bool false, .slice A3 (toL (rne a n)).length c3], .int .i64 0]) (by simp [results, Tryz.results250, go_sem, r0, r1]) rfl ⟨_, rfl, ?_, ?_⟩
        · have q1 : ∀ y, (w3.setCell ⟨w.heap.size + 1, 0, none⟩ y).cell? ⟨w.heap.size + 1, 1, none⟩ = some (.slice none 0 0) := fun y => by rw [cell_other (by simp)]; exact r1
          exact (hN3.out.write r0 (by simp) _).write (q1 _) (by simp) _
        · exact ((below_chain HW2.out hb3).setCell (by simp) _).setCell (by simp) _

      · have HH := Lib.hid (show (1 : Int) = halfOf a n by unfold halfOf; rw [if_pos hbt, if_neg htn])
        have he : (((tz a : Nat) : Int) == (n : Int) - 1) = false := by rw [beq_eq_false_iff_ne]; omega
        clear hbt hbn htn
        go_wp2_with (first | (go_at_call 157; refine HTR.out.mono ?_; rintro e w3 ⟨rfl, rfl⟩) | (go_at_call 44; refine (HBIT.out _ (by omega) (by omega)).mono ?_; rintro e w3 ⟨rfl, rfl⟩; rw [HB0.out]))
        refine HMOD.out _ _ HH.out _ ?_
        rintro s3 w3 hn3 hb3
        have hN3 := Lib.hid hn3
        obtain ⟨A3, c3, rfl, hc3, hr3⟩ := hn3
        clear hc3 hr3
        clear x0 x1 x2 x3 x4 r0 r1 r2 r3 r4
        obtain ⟨r0, r1, r2, r3, r4⟩ := (HRR.out.below HB12.out).below hb3
        go_wp2_with fail
        refine bodyPost_ret (v := .tuple #[.agg #[.bool false, .slice A3 (toL (rne a n)).length c3], .int .i64 0]) (by simp [results, Tryz.results250, go_sem, r0, r1]) rfl ⟨_, rfl, ?_, ?_⟩
        · have q1 : ∀ y, (w3.setCell ⟨w.heap.size + 1, 0, none⟩ y).cell? ⟨w.heap.size + 1, 1, none⟩ = some (.slice none 0 0) := fun y => by rw [cell_other (by simp)]; exact r1
          exact (hN3.out.write r0 (by simp) _).write (q1 _) (by simp) _
        · exact ((below_chain HW2.out hb3).setCell (by simp) _).setCell (by simp) _

    · have hbn : (decide (0 ≤ (n : Int) - 1) && tb a ((n : Int) - 1).toNat) = false := by rw [HBV.out]; exact decide_eq_false hbt
      have HB0 := Lib.hid hbn
      have HH := Lib.hid (show (-1 : Int) = halfOf a n by unfold halfOf; rw [if_neg hbt])
      clear hbt hbn
      go_wp2_with (first | (go_at_call 157; refine HTR.out.mono ?_; rintro e w3 ⟨rfl, rfl⟩) | (go_at_call 44; refine (HBIT.out _ (by omega) (by omega)).mono ?_; rintro e w3 ⟨rfl, rfl⟩; rw [HB0.out]))
      refine HMOD.out _ _ HH.out _ ?_
      rintro s3 w3 hn3 hb3
      have hN3 := Lib.hid hn3
      obtain ⟨A3, c3, rfl, hc3, hr3⟩ := hn3
      clear hc3 hr3
      clear x0 x1 x2 x3 x4 r0 r1 r2 r3 r4
      obtain ⟨r0, r1, r2, r3, r4⟩ := (HRR.out.below HB12.out).below hb3
      go_wp2_with fail
      refine bodyPost_ret (v := .tuple #[.agg #[.bool false, .slice A3 (toL (rne a n)).length c3], .int .i64 0]) (by simp [results, Tryz.results250, go_sem, r0, r1]) rfl ⟨_, rfl, ?_, ?_⟩
      · have q1 : ∀ y, (w3.setCell ⟨w.heap.size + 1, 0, none⟩ y).cell? ⟨w.heap.size + 1, 1, none⟩ = some (.slice none 0 0) := fun y => by rw [cell_other (by simp)]; exact r1
        exact (hN3.out.write r0 (by simp) _).write (q1 _) (by simp) _
      · exact ((below_chain HW2.out hb3).setCell (by simp) _).setCell (by simp) _

set_option maxRecDepth 100000 in
theorem nearshr_walk (s : Value) (a : Nat) (i : Int) (w : World) (h : NatAt w s a) (ht : Tab64 w) (hi : 0 ≤ i) (hi2 : i ≤ 10000000) (hb : blen a ≤ 524287) :
    Calls Tryz.prog 228 #[.agg #[.bool false, s], .int .i64 i] w fun e w' =>
      ∃ s', e = .returned (.tuple #[.agg #[.bool false, s'], .int .i64 0]) ∧ NatAt w' s' (rne a i.toNat) ∧ Below w.heap.size w w' := by
  have H := Lib.hid h
  have HT := Lib.hid ht
  obtain ⟨A, c, rfl, hc, hr⟩ := h
  clear hr ht
  go_enter Tryz.func228, Tryz.ntmps228
  go_wp2_with fail
  have hW0 : Below w.heap.size w ((w.alloc (.cells #[.bool false, .slice A (toL a).length c] 84)).alloc (.cells #[.bool false, .slice none 0 0] 84)) := below_chain (below_alloc' w _) (below_alloc' _ _)
  have hR : Box2 ((w.alloc (.cells #[.bool false, .slice A (toL a).length c] 84)).alloc (.cells #[.bool false, .slice none 0 0] 84)) (w.heap.size + 1) (.bool false) (.slice none 0 0) := ⟨by simp, by simp, by simp, by simp, by simp⟩
  generalize (w.alloc (.cells #[.bool false, .slice A (toL a).length c] 84)).alloc (.cells #[.bool false, .slice none 0 0] 84) = W0 at *
  refine (wshr_walk _ a i W0 (H.out.below hW0) (HT.out.below hW0) hi hi2 hb).mono ?_
  rintro e w3 ⟨s3, rfl, hn3, hb3⟩
  have hN3 := Lib.hid hn3
  obtain ⟨A3, c3, rfl, hc3, hr3⟩ := hn3
  clear hc3 hr3
  obtain ⟨r0, r1, r2, r3, r4⟩ := hR.below hb3
  clear hR
  go_wp2_with fail
  refine bodyPost_ret (v := .tuple #[.agg #[.bool false, .slice A3 (toL (rne a i.toNat)).length c3], .int .i64 0]) (by simp [results, Tryz.results228, go_sem, r0, r1]) rfl ⟨_, rfl, ?_, ?_⟩
  · have q1 : ∀ y, (w3.setCell ⟨w.heap.size + 1, 0, none⟩ y).cell? ⟨w.heap.size + 1, 1, none⟩ = some (.slice none 0 0) := fun y => by rw [cell_other (by simp)]; exact r1
    exact (hN3.out.write r0 (by simp) _).write (q1 _) (by simp) _
  · exact ((below_chain hW0 hb3).setCell (by simp) _).setCell (by simp) _

set_option maxRecDepth 100000 in
theorem nshl_walk (s : Value) (a : Nat) (i : Int) (w : World) (h : NatAt w s a) (hi : 0 ≤ i) (hb : blen a + i ≤ 524288) :
    Calls Tryz.prog 214 #[.agg #[.bool false, s], .int .i64 i] w fun e w' =>
      ∃ s', e = .returned (.tuple #[.agg #[.bool false, s'], .int .i64 0]) ∧ NatAt w' s' (a * 2 ^ i.toNat) ∧ Below w.heap.size w w' := by
  have H := Lib.hid h
  obtain ⟨A, c, rfl, hc, hr⟩ := h
  have hsz : (toL a).length ≤ 8192 := by rw [toL_length]; omega
  have hn0 : ¬ i < 0 := by omega
  clear hr
  go_enter Tryz.func214, Tryz.ntmps214
  go_wp2_with fail
  have hW0 : Below w.heap.size w ((w.alloc (.cells #[.bool false, .slice A (toL a).length c] 84)).alloc (.cells #[.bool false, .slice none 0 0] 84)) := below_chain (below_alloc' w _) (below_alloc' _ _)
  have hX : Box2 ((w.alloc (.cells #[.bool false, .slice A (toL a).length c] 84)).alloc (.cells #[.bool false, .slice none 0 0] 84)) w.heap.size (.bool false) (.slice A (toL a).length c) := ⟨by simp, by simp, by simp, by simp, by simp; omega⟩
  have hR : Box2 ((w.alloc (.cells #[.bool false, .slice A (toL a).length c] 84)).alloc (.cells #[.bool false, .slice none 0 0] 84)) (w.heap.size + 1) (.bool false) (.slice none 0 0) := ⟨by simp, by simp, by simp, by simp, by simp⟩
  generalize (w.alloc (.cells #[.bool false, .slice A (toL a).length c] 84)).alloc (.cells #[.bool false, .slice none 0 0] 84) = W0 at *
  refine (nform_walk false _ a W0 (H.out.below hW0) hsz (by simp)).mono ?_
  rintro e w1 ⟨rfl, hb1⟩
  obtain ⟨x0, x1, x2, x3, x4⟩ := hX.below hb1
  go_wp2_with fail
  refine (shl_walk _ a i w1 (H.out.below (below_chain hW0 hb1)) hi hb).mono ?_
  rintro e w2 ⟨s2, rfl, hn2, hb2⟩
  have hN2 := Lib.hid hn2
  obtain ⟨A2, c2, rfl, hc2, hr2⟩ := hn2
  clear hc2 hr2 x0 x1 x2 x3 x4
  obtain ⟨x0, x1, x2, x3, x4⟩ := hX.below (below_chain hb1 hb2)
  go_wp2_with fail
  refine (ntold_walk false _ (a * 2 ^ i.toNat) w2 hN2.out).mono ?_
  rintro e w3 ⟨rfl, hb3⟩
  simp only [Bool.false_and]
  obtain ⟨r0, r1, r2, r3, r4⟩ := hR.below (below_chain (below_chain hb1 hb2) hb3)
  clear x0 x1 x2 x3 x4 hX hR
  go_wp2_with fail
  refine bodyPost_ret (v := .tuple #[.agg #[.bool false, .slice A2 (toL (a * 2 ^ i.toNat)).length c2], .int .i64 0]) (by simp [results, Tryz.results214, go_sem, r0, r1]) rfl ⟨_, rfl, ?_, ?_⟩
  · have q1 : ∀ y, (w3.setCell ⟨w.heap.size + 1, 0, none⟩ y).cell? ⟨w.heap.size + 1, 1, none⟩ = some (.slice none 0 0) := fun y => by rw [cell_other (by simp)]; exact r1
    exact ((hN2.out.below hb3).write r0 (by simp) _).write (q1 _) (by simp) _
  · exact ((below_chain hW0 (below_chain (below_chain hb1 hb2) hb3)).setCell (by simp) _).setCell (by simp) _
end Go.Proofs.YtibjogbalmbeeaaGreatDoor

namespace Go.Proofs.YtibjogbalmbeeaaGreatDoor
open Go.RowKit

set_option maxRecDepth 100000 in
theorem nought_walk (neg : Bool) (s : Value) (a : Nat) (e : Int) (w : World) (h : NatAt w s a) :
    Calls Tryz.prog 212 #[.agg #[.bool neg, s, .int .i64 e]] w fun e w' => e = .returned (.bool (decide (a = 0))) ∧ Below w.heap.size w w' := by
  obtain ⟨A, c, rfl, hc, hr⟩ := h
  have h0 := toL_length_zero a
  have hd : (((toL a).length : Int) == 0) = decide (a = 0) := by
    by_cases hz : a = 0
    · rw [h0.2 hz]; simp [hz]
    · have : (toL a).length ≠ 0 := fun e => hz (h0.1 e)
      rw [beq_eq_false_iff_ne.2 (by omega)]; simp [hz]
  have HD := Lib.hid hd
  clear hd h0 hr
  go_enter Tryz.func212, Tryz.ntmps212
  go_wp2
  go_ret
  exact ⟨by rw [← HD.out]; rfl, below_alloc' w _⟩

set_option maxRecDepth 100000 in
theorem dform_walk (neg : Bool) (s : Value) (a : Nat) (x : Int) (w : World) (h : NatAt w s a) (hs : blen a ≤ 524288) (hn : neg = true → a ≠ 0) (hx : -1048576 ≤ x) (hx2 : x ≤ 1048576) (hodd : a ≠ 0 → a % 2 = 1) (hz0 : a = 0 → x = 0) :
    Calls Tryz.prog 206 #[.agg #[.bool neg, s, .int .i64 x]] w fun e w' => e = .returned (.bool true) ∧ Below w.heap.size w w' := by
  have H := Lib.hid h
  have hsz : (toL a).length ≤ 8192 := by rw [toL_length]; omega
  obtain ⟨A, c, rfl, hc, hr⟩ := h
  have hel := el_toL a 0
  have HR := Lib.hid hr
  have HN := Lib.hid hn
  have HO := Lib.hid hodd
  have HZ0 := Lib.hid hz0
  have HL0 := Lib.hid (toL_length_zero a)
  have HE := Lib.hid hel
  clear hr hn hodd hz0 hel
  go_enter Tryz.func206, Tryz.ntmps206
  go_wp2_with fail
  have hW0 : Below w.heap.size w (w.alloc (.cells #[.bool neg, .slice A (toL a).length c, .int .i64 x] 86)) := below_alloc' w _
  have hX : Box3 (w.alloc (.cells #[.bool neg, .slice A (toL a).length c, .int .i64 x] 86)) w.heap.size (.bool neg) (.slice A (toL a).length c) (.int .i64 x) := ⟨by simp, by simp, by simp, by simp, by simp, by simp, by simp⟩
  generalize w.alloc (.cells #[.bool neg, .slice A (toL a).length c, .int .i64 x] 86) = W0 at *
  refine (nform_walk neg _ a W0 (H.out.below hW0) hsz HN.out).mono ?_
  rintro e w1 ⟨rfl, hb1⟩
  obtain ⟨x0, x1, x2, x3, x4, x5, x6⟩ := hX.below hb1
  have hw1 := below_chain hW0 hb1
  have d1 : decide (x < -1048576) = false := decide_eq_false (by omega)
  have d2 : decide (1048576 < x) = false := decide_eq_false (by omega)
  go_wp2_with fail
  clear x0 x1 x2 x3 x4 x5 x6
  refine (nought_walk neg _ a x w1 (H.out.below hw1)).mono ?_
  rintro e w2 ⟨rfl, hb2⟩
  have hw2 := below_chain hw1 hb2
  obtain ⟨x0, x1, x2, x3, x4, x5, x6⟩ := hX.below (below_chain hb1 hb2)
  clear hX
  by_cases hz : a = 0
  · have hx0 : (x == 0) = true := by rw [beq_iff_eq]; exact HZ0.out hz
    have hd : decide (a = 0) = true := decide_eq_true hz
    clear hz
    go_wp2
    go_ret
    exact ⟨rfl, hw2⟩
  · have hd : decide (a = 0) = false := decide_eq_false hz
    have hp : 0 < (toL a).length := Nat.pos_of_ne_zero fun e => hz (HL0.out.1 e)
    obtain ⟨ad, rfl, hc2⟩ := (HR.out.below hw2) hp
    have hck : w2.cell? ad = some (.int .u64 ((el (toL a) 0 : Nat) : Int)) := by have := hc2 0 hp; simpa [Addr.add] using this
    have hodd : ((el (toL a) 0 : Nat) : Int) % 2 = 1 := by
      have h1 := HO.out hz
      have h2 := HE.out
      rw [Nat.pow_zero, Nat.div_one, W64_num] at h2
      omega
    have hlt : ((el (toL a) 0 : Nat) : Int) ≤ 18446744073709551615 := by
      have := el_lt (Wd_toL a) 0
      rw [W64_num] at this; omega
    have hand : (bits BinOp.and IntKind.u64 ((el (toL a) 0 : Nat) : Int) 1 == 1) = true := by
      rw [and_one_u64 _ (by omega) hlt, hodd]; rfl
    have hand2 : bits BinOp.and IntKind.u64 ((el (toL a) 0 : Nat) : Int) 1 = 1 := by
      rw [and_one_u64 _ (by omega) hlt, hodd]
    clear hc2 hz hodd hlt hand
    go_wp2
    go_ret
    exact ⟨rfl, hw2⟩

/-- The exponent of a * 2^x in form. -/
def dexp (a : Nat) (x : Int) : Int := if a = 0 then 0 else x + tz a

set_option maxRecDepth 100000 in
theorem make_walk (neg : Bool) (s : Value) (a : Nat) (x : Int) (w : World) (h : NatAt w s a) (ht : Tab64 w) (hs : blen a ≤ 524288) (hn : neg = true → a ≠ 0) (hx : -1500000 ≤ x) (hx2 : x ≤ 1048576) (hlo : a ≠ 0 → -1048576 ≤ x + tz a) (hhi : a ≠ 0 → x + tz a ≤ 1048576) :
    Calls Tryz.prog 125 #[.agg #[.bool neg, s], .int .i64 x] w fun e w' =>
      ∃ s', e = .returned (.tuple #[.agg #[.bool neg, s', .int .i64 (dexp a x)], .int .i64 0]) ∧ NatAt w' s' (a / 2 ^ tz a) ∧ Below w.heap.size w w' := by
  have H := Lib.hid h
  have HT := Lib.hid ht
  have hsz : (toL a).length ≤ 8192 := by rw [toL_length]; omega
  obtain ⟨A, c, rfl, hc, hr⟩ := h
  have HN := Lib.hid hn
  have HLO := Lib.hid hlo
  have HHI := Lib.hid hhi
  have HL0 := Lib.hid (toL_length_zero a)
  clear hr hn hlo hhi ht
  go_enter Tryz.func125, Tryz.ntmps125
  go_wp2_with fail
  have hW0 : Below w.heap.size w ((w.alloc (.cells #[.bool neg, .slice A (toL a).length c] 84)).alloc (.cells #[.bool false, .slice none 0 0, .int .i64 0] 86)) := below_chain (below_alloc' w _) (below_alloc' _ _)
  have hX : Box2 ((w.alloc (.cells #[.bool neg, .slice A (toL a).length c] 84)).alloc (.cells #[.bool false, .slice none 0 0, .int .i64 0] 86)) w.heap.size (.bool neg) (.slice A (toL a).length c) := ⟨by simp, by simp, by simp, by simp, by simp; omega⟩
  have hR : Box3 ((w.alloc (.cells #[.bool neg, .slice A (toL a).length c] 84)).alloc (.cells #[.bool false, .slice none 0 0, .int .i64 0] 86)) (w.heap.size + 1) (.bool false) (.slice none 0 0) (.int .i64 0) := ⟨by simp, by simp, by simp, by simp, by simp, by simp, by simp⟩
  generalize (w.alloc (.cells #[.bool neg, .slice A (toL a).length c] 84)).alloc (.cells #[.bool false, .slice none 0 0, .int .i64 0] 86) = W0 at *
  refine (nform_walk neg _ a W0 (H.out.below hW0) hsz HN.out).mono ?_
  rintro e w1 ⟨rfl, hb1⟩
  obtain ⟨x0, x1, x2, x3, x4⟩ := hX.below hb1
  obtain ⟨r0, r1, r2, r3, r4, r5, r6⟩ := hR.below hb1
  have HR := Lib.hid hR
  have HX := Lib.hid hX
  have hw1 := below_chain hW0 hb1
  clear hR hX
  by_cases hz : a = 0
  · have hl : (((toL a).length : Int) == 0) = true := by rw [beq_iff_eq]; have := HL0.out.2 hz; omega
    have hneg : neg = false := by
      cases neg
      · rfl
      · exact absurd hz (HN.out rfl)
    subst hneg
    have HZ := Lib.hid hz
    clear hz
    go_wp2_with fail
    refine bodyPost_ret (v := .tuple #[.agg #[.bool false, .slice none 0 0, .int .i64 0], .int .i64 0]) (by simp [results, Tryz.results125, go_sem, r0, r1, r2]) rfl ⟨_, by rw [dexp, if_pos HZ.out], ?_, ?_⟩
    · rw [HZ.out, Nat.zero_div]; exact NatAt.nil _
    · exact (((hw1.setCell (by simp) _).setCell (by simp) _).setCell (by simp) _)
  · have hl : (((toL a).length : Int) == 0) = false := by
      have h1 : (toL a).length ≠ 0 := fun e => hz (HL0.out.1 e)
      rw [beq_eq_false_iff_ne]; omega
    have hlo := HLO.out hz
    have hhi := HHI.out hz
    have htz : tz a ≤ 524288 := by have := tz_le hz; omega
    have HZ := Lib.hid hz
    have d1 : decide ((1048576 : Int) < x) = false := decide_eq_false (by omega)
    have d2 : decide (x < (-1572864 : Int)) = false := decide_eq_false (by omega)
    have d3 : decide (x + (tz a : Int) < (-1048576 : Int)) = false := decide_eq_false (by omega)
    have d4 : decide ((1048576 : Int) < x + (tz a : Int)) = false := decide_eq_false (by omega)
    clear hz r0 r1 r2 r3 r4 r5 r6
    go_wp2_with (go_at_call 157; refine (trail_walk _ a w1 (H.out.below hw1) (by omega) (HT.out.below hw1)).mono ?_; rintro e w3 ⟨rfl, rfl⟩)
    refine (shr_walk _ a (tz a : Int) w1 (H.out.below hw1) hsz (by omega) (by omega)).mono ?_
    rintro e w2 ⟨s2, rfl, hn2, hb2⟩
    simp only [Int.toNat_natCast] at hn2
    have hN2 := Lib.hid hn2
    obtain ⟨A2, c2, rfl, hc2, hr2⟩ := hn2
    clear hc2 hr2 x0 x1 x2 x3 x4
    obtain ⟨x0, x1, x2, x3, x4⟩ := HX.out.below (below_chain hb1 hb2)
    obtain ⟨r0, r1, r2, r3, r4, r5, r6⟩ := HR.out.below (below_chain hb1 hb2)
    go_wp2_with fail
    refine bodyPost_ret (v := .tuple #[.agg #[.bool neg, .slice A2 (toL (a / 2 ^ tz a)).length c2, .int .i64 (x + tz a)], .int .i64 0]) (by simp [results, Tryz.results125, go_sem, r0, r1, r2]) rfl ⟨_, by rw [dexp, if_neg HZ.out], ?_, ?_⟩
    · have q1 : ∀ y, (w2.setCell ⟨w.heap.size + 1, 0, none⟩ y).cell? ⟨w.heap.size + 1, 1, none⟩ = some (.slice none 0 0) := fun y => by rw [cell_other (by simp)]; exact r1
      have h2 := (hN2.out.write r0 (by simp) (.bool neg)).write (q1 _) (by simp) (.slice A2 (toL (a / 2 ^ tz a)).length c2)
      have q2 : ((w2.setCell ⟨w.heap.size + 1, 0, none⟩ (.bool neg)).setCell ⟨w.heap.size + 1, 1, none⟩ (.slice A2 (toL (a / 2 ^ tz a)).length c2)).cell? ⟨w.heap.size + 1, 2, none⟩ = some (.int .i64 0) := by rw [cell_other (by simp), cell_other (by simp)]; exact r2
      exact h2.write q2 (by simp) _
    · exact (((below_chain hw1 hb2).setCell (by simp) _).setCell (by simp) _).setCell (by simp) _
end Go.Proofs.YtibjogbalmbeeaaGreatDoor
