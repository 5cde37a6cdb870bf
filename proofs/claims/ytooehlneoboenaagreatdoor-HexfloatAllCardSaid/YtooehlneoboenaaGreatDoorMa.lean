/- Walks of num: whole, told, Form, (way).more, (way).made, (way).shr, NearShr, Shl, for numbers that are not negative where that is all that is asked. -/
import Derived.Test.YtooehlneoboenaaGreatDoorNe
namespace Go.Proofs.YtooehlneoboenaaGreatDoor
open Go.RowKit

set_option maxRecDepth 100000 in
theorem whole_walk (neg : Bool) (v : Value) (a : Nat) (w : World) (h : NatAt w v a) :
    Calls Tryz.prog 111 #[.bool neg, v] w fun e w' => e = .returned (.agg #[.bool (neg && decide (0 < a)), v]) ∧ Below w.heap.size w w' := by
  obtain ⟨A, c, rfl, hc, hr⟩ := h
  have h0 := toL_length_zero a
  generalize toL a = l at *
  have hd : decide (0 < l.length) = decide (0 < a) := by
    by_cases hz : a = 0
    · have := h0.2 hz
      simp [hz, this]
    · have : l.length ≠ 0 := fun e => hz (h0.1 e)
      simp; omega
  have HD := Lib.hid hd
  clear hd h0 hr
  cases neg
  all_goals
    go_enter Tryz.func111, Tryz.ntmps111
    go_wp2
    refine bodyPost_ret (v := .agg #[.bool _, .slice A l.length c]) (by simp [results, Tryz.results111, go_sem]; try rfl) rfl ⟨?_, ?_⟩
    · first | rfl | (rw [← HD.out]; simp)
    · exact ((Below.refl _ _).alloc (Nat.le_refl _) _)

set_option maxRecDepth 100000 in
theorem ntold_walk (neg : Bool) (v : Value) (a : Nat) (w : World) (h : NatAt w v a) :
    Calls Tryz.prog 108 #[.bool neg, v, .int .i64 0] w fun e w' => e = .returned (.tuple #[.agg #[.bool (neg && decide (0 < a)), v], .int .i64 0]) ∧ Below w.heap.size w w' := by
  have hw := fun o => whole_walk neg v a (w.alloc o) (h.below ((Below.refl _ _).alloc (Nat.le_refl _) o))
  have HW := Lib.hid hw
  clear hw
  obtain ⟨A, c, rfl, hc, hr⟩ := h
  go_enter Tryz.func108, Tryz.ntmps108
  go_wp2_with (go_at_call 111; refine (HW.out _).mono ?_; rintro e w1 ⟨rfl, hb⟩; obtain ⟨hc1, hf1, hs1⟩ := bcell hb)
  refine bodyPost_ret (v := .tuple #[.agg #[.bool (neg && decide (0 < a)), .slice A (toL a).length c], .int .i64 0]) (by simp [results, Tryz.results108, go_sem, hc1]) rfl ⟨rfl, ?_⟩
  exact ((below_next ((Below.refl _ _).alloc (Nat.le_refl _) _) (by simp) hb).setCell (Nat.le_refl _) _).setCell (Nat.le_refl _) _

set_option maxRecDepth 100000 in
theorem nform_walk (neg : Bool) (v : Value) (a : Nat) (w : World) (h : NatAt w v a) (hs : (toL a).length ≤ 8192) (hn : neg = true → a ≠ 0) :
    Calls Tryz.prog 80 #[.agg #[.bool neg, v]] w fun e w' => e = .returned (.bool true) ∧ Below w.heap.size w w' := by
  have hf := fun o => form_walk v a (w.alloc o) (h.below ((Below.refl _ _).alloc (Nat.le_refl _) o)) hs
  have HF := Lib.hid hf
  clear hf
  obtain ⟨A, c, rfl, hc, hr⟩ := h
  have h0 := toL_length_zero a
  generalize toL a = l at *
  cases neg
  · go_enter Tryz.func80, Tryz.ntmps80
    go_wp2_with (go_at_call 96; refine (HF.out _).mono ?_; rintro e w1 ⟨rfl, rfl⟩)
    go_ret
    exact ⟨rfl, (Below.refl _ _).alloc (Nat.le_refl _) _⟩
  · have h2 : ((l.length : Int) == 0) = false := by
      have := hn rfl
      have := fun e => this (h0.1 e)
      rw [beq_eq_false_iff_ne]; omega
    clear h0 hr
    go_enter Tryz.func80, Tryz.ntmps80
    go_wp2_with (go_at_call 96; refine (HF.out _).mono ?_; rintro e w1 ⟨rfl, rfl⟩)
    go_ret
    exact ⟨rfl, (Below.refl _ _).alloc (Nat.le_refl _) _⟩
/-- Rounding to nearest: what is told of the rest: is one to be added? -/
def moreN (odd : Bool) (half : Int) : Bool := decide (0 < half) || (half == 0 && odd)

set_option maxRecDepth 100000 in
theorem more_walk (odd sm : Bool) (half : Int) (w : World) :
    Calls Tryz.prog 112 #[.int .i64 2, .bool false, .bool odd, .bool sm, .int .i64 half] w fun e w' => e = .returned (.bool (moreN odd half)) ∧ w = w' := by
  unfold moreN
  by_cases h1 : 0 < half
  · have h2 : decide (0 < half) = true := by simp [h1]
    go_enter Tryz.func112, Tryz.ntmps112
    go_wp2
    go_ret
    exact ⟨by simp [h1], rfl⟩
  · have h2 : decide (0 < half) = false := by simp [h1]
    by_cases h3 : half = 0
    · subst h3
      go_enter Tryz.func112, Tryz.ntmps112
      go_wp2
      go_ret
      exact ⟨by simp, rfl⟩
    · have h4 : (half == 0) = false := by simp [h3]
      go_enter Tryz.func112, Tryz.ntmps112
      go_wp2
      go_ret
      exact ⟨rfl, rfl⟩

/-- An Int value that is not negative. -/
def IntAt (w : World) (v : Value) (a : Nat) : Prop := ∃ s, v = .agg #[.bool false, s] ∧ NatAt w s a
theorem IntAt.below {w w1 : World} {v : Value} {a : Nat} (h : IntAt w v a) (hb : Below w.heap.size w w1) : IntAt w1 v a := by
  obtain ⟨s, e, hs⟩ := h
  exact ⟨s, e, hs.below hb⟩

set_option maxRecDepth 100000 in
theorem made_walk (v : Value) (q : Nat) (sm : Bool) (half : Int) (w : World) (h : NatAt w v q) (hq : blen (q + 1) ≤ 524288) :
    Calls Tryz.prog 110 #[.int .i64 2, .bool false, v, .bool sm, .int .i64 half] w fun e w' =>
      ∃ v', e = .returned (.tuple #[.agg #[.bool false, v'], .int .i64 0]) ∧ NatAt w' v' (q + if moreN (tb q 0) half then 1 else 0) ∧ Below w.heap.size w w' := by
  have hb0 := blen_mono (Nat.le_add_right q 1)
  have hsz : (toL q).length ≤ 8192 := by rw [toL_length]; omega
  have hbit : ∀ o, Calls Tryz.prog 109 #[v, .int .i64 0] (w.alloc o) fun e w' => e = .returned (.bool (tb q 0)) ∧ w.alloc o = w' := fun o => by
    have := bit_walk v q 0 (w.alloc o) (h.below (below_alloc' w o)) (by omega) (by omega) (by omega)
    simpa using this
  have HBit := Lib.hid hbit
  have H := Lib.hid h
  have HQ := Lib.hid hq
  clear hbit hb0 hq
  have hm := fun w => more_walk (tb q 0) sm half w
  have HM := Lib.hid hm
  clear hm
  obtain ⟨A, c, rfl, hc, hr⟩ := h
  cases hmore : moreN (tb q 0) half
  · have HX := Lib.hid hmore
    clear hmore
    go_enter Tryz.func110, Tryz.ntmps110
    go_wp2_with (first | (go_at_call 109; refine (HBit.out _).mono ?_; rintro e w1 ⟨rfl, rfl⟩) | (go_at_call 112; refine (HM.out _).mono ?_; rintro e w1 ⟨rfl, rfl⟩; rw [HX.out]))
    refine (ntold_walk false _ q _ ?c1).mono ?_
    case c1 => exact H.out.below (below_alloc' w _)
    rintro e w1 ⟨rfl, hb⟩
    simp only [Bool.false_and]
    obtain ⟨hc1, hf1, hs1⟩ := bcell hb
    go_wp2_with fail
    refine bodyPost_ret (v := .tuple #[.agg #[.bool false, .slice A (toL q).length c], .int .i64 0]) (by simp [results, Tryz.results110, go_sem, hc1]) rfl ⟨_, rfl, ?_, ?_⟩
    · have hb2 := (below_next (below_alloc' w _) (size_alloc' w _) hb)
      exact H.out.below ((hb2.setCell (Nat.le_refl _) _).setCell (Nat.le_refl _) _)
    · have hb2 := (below_next (below_alloc' w _) (size_alloc' w _) hb)
      exact (hb2.setCell (Nat.le_refl _) _).setCell (Nat.le_refl _) _
  · have HX := Lib.hid hmore
    clear hmore
    go_enter Tryz.func110, Tryz.ntmps110
    go_wp2_with (first | (go_at_call 109; refine (HBit.out _).mono ?_; rintro e w1 ⟨rfl, rfl⟩) | (go_at_call 112; refine (HM.out _).mono ?_; rintro e w1 ⟨rfl, rfl⟩; rw [HX.out]))
    refine (word_walk 1 _ (by rw [W64_num]; omega)).mono ?_
    rintro e w1 ⟨v1, rfl, hn1, hb1⟩
    have hq1 := (H.out.below (below_alloc' w _)).below hb1
    go_wp2_with fail
    refine (add_walk _ _ q 1 _ hq1 hn1 HQ.out).mono ?_
    rintro e w2 ⟨v2, rfl, hn2, hb2⟩
    have HN2 := Lib.hid hn2
    obtain ⟨A2, c2, rfl, hc2, hr2⟩ := hn2
    clear hr2 hc2 hq1
    go_wp2_with fail
    refine (ntold_walk false _ (q + 1) _ HN2.out).mono ?_
    rintro e w3 ⟨rfl, hb3⟩
    simp only [Bool.false_and]
    have hb := below_chain (below_chain hb1 hb2) hb3
    obtain ⟨hc1, hf1, hs1⟩ := bcell hb
    have hn3 := HN2.out.below hb3
    have hbw := below_chain (below_alloc' w _) hb
    have HN3 := Lib.hid hn3
    have HBW := Lib.hid hbw
    clear hn3 hbw
    go_wp2_with fail
    refine bodyPost_ret (v := .tuple #[.agg #[.bool false, .slice A2 (toL (q + 1)).length c2], .int .i64 0]) (by simp [results, Tryz.results110, go_sem, hc1]) rfl ⟨_, rfl, ?_, ?_⟩
    · have q0 : w3.cell? ⟨w.heap.size, 0, none⟩ = some (.bool false) := by rw [hc1 _ _ (by simp)]; simp
      have q1 : ∀ y, (w3.setCell ⟨w.heap.size, 0, none⟩ y).cell? ⟨w.heap.size, 1, none⟩ = some (.slice none 0 0) := fun y => by rw [cell_other (by simp), hc1 _ _ (by simp)]; simp
      exact (HN3.out.write q0 (by simp) _).write (q1 _) (by simp) _
    · exact (HBW.out.setCell (Nat.le_refl _) _).setCell (Nat.le_refl _) _
end Go.Proofs.YtooehlneoboenaaGreatDoor
