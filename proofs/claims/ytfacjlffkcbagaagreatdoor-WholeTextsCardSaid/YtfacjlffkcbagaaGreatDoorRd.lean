/- Walks of round: Nearest, for both formats (printed by gen_near.py). -/
import Derived.Test.YtfacjlffkcbagaaGreatDoorRc
namespace Go.Proofs.YtfacjlffkcbagaaGreatDoor
open Go.RowKit

theorem below_draw' (w : World) : Below w.heap.size w w.drew := (Below.refl _ _).drew
theorem inf_lt (f : Fm) (hf : f.ok) : f.inf < 2 ^ f.S := by rcases hf with h | h <;> subst h <;> decide
theorem rsize_le (f : Fm) (a : Nat) (x : Int) : rsize f a x ≤ f.inf := by
  unfold rsize; split
  · exact Nat.le_refl _
  · exact Nat.min_le_right _ _
/-- The pattern nearest to a * 2^x, the sign given. -/
def near (f : Fm) (neg : Bool) (a : Nat) (x : Int) : Nat := if a = 0 then 0 else sgn f neg (rsize f a x)

set_option maxRecDepth 100000 in
set_option maxHeartbeats 1000000 in
theorem nearest_walk_S (neg : Bool) (s : Value) (a : Nat) (x : Int) (w : World) (h : NatAt w s a) (ht : Tab64 w) (hb : blen a ≤ 500000) (hn : neg = true → a ≠ 0) (hx : -1048576 ≤ x) (hx2 : x ≤ 1048576) (hodd : a ≠ 0 → a % 2 = 1) (hz0 : a = 0 → x = 0) :
    Calls Tryz.prog 37 #[.int .i64 32, .agg #[.bool neg, s, .int .i64 x]] w fun e w' => e = .returned (.tuple #[.int .u64 ((near fmS neg a x : Nat) : Int), .int .i64 0]) ∧ Below w.heap.size w w' := by
  have H := Lib.hid h
  have HT := Lib.hid ht
  obtain ⟨A, c, rfl, hc, hr⟩ := h
  have HN := Lib.hid hn
  have HO := Lib.hid hodd
  have HZ0 := Lib.hid hz0
  have HL0 := Lib.hid (toL_length_zero a)
  clear hr hn hodd hz0 ht
  have hD0 : Box3 (w.alloc (.cells #[.bool neg, .slice A (toL a).length c, .int .i64 x] 81)) w.heap.size (.bool neg) (.slice A (toL a).length c) (.int .i64 x) := ⟨by simp, by simp, by simp, by simp, by simp, by simp, by simp⟩
  have HD0 := Lib.hid hD0
  clear hD0
  go_enter Tryz.func37, Tryz.ntmps37
  go_wp2_with fail
  have hw0 : Below w.heap.size w (w.alloc (.cells #[.bool neg, .slice A (toL a).length c, .int .i64 x] 81)) := below_alloc' w _
  have hD0 := HD0.out
  clear HD0
  generalize w.alloc (.cells #[.bool neg, .slice A (toL a).length c, .int .i64 x] 81) = W0 at *
  refine (rof_single W0).mono ?_
  rintro e w1 ⟨rfl, hb1⟩
  rw [show fmS.val = .agg #[.int .i64 24, .int .i64 (-149), .int .i64 31] from rfl]
  have hw1 := below_chain hw0 hb1
  have hD1 := hD0.below hb1
  have hw2 := below_chain hw1 (below_alloc' w1 (.cells #[.int .i64 24, .int .i64 (-149), .int .i64 31] 124))
  have hD2 := hD1.below (below_alloc' w1 (.cells #[.int .i64 24, .int .i64 (-149), .int .i64 31] 124))
  have hF2 : Box3 (w1.alloc (.cells #[.int .i64 24, .int .i64 (-149), .int .i64 31] 124)) w1.heap.size (.int .i64 24) (.int .i64 (-149)) (.int .i64 31) := ⟨by simp, by simp, by simp, by simp, by simp, by simp, by simp⟩
  have HF2 := Lib.hid hF2
  obtain ⟨x0, x1, x2, x3, x4, x5, x6⟩ := hD2
  clear hF2 hD0 hD1
  go_wp2_with fail
  have hD2 : Box3 (w1.alloc (.cells #[.int .i64 24, .int .i64 (-149), .int .i64 31] 124)) w.heap.size (.bool neg) (.slice A (toL a).length c) (.int .i64 x) := ⟨x0, x1, x2, x3, x4, x5, x6⟩
  have hF2 := HF2.out
  clear HF2 x0 x1 x2 x3 x4 x5 x6
  generalize w1.alloc (.cells #[.int .i64 24, .int .i64 (-149), .int .i64 31] 124) = W2 at *
  refine (dform_walk neg _ a x W2 (H.out.below hw2) (by omega) HN.out hx hx2 HO.out HZ0.out).mono ?_
  rintro e w3 ⟨rfl, hb3⟩
  have hw3 := below_chain hw2 hb3
  obtain ⟨x0, x1, x2, x3, x4, x5, x6⟩ := hD2.below hb3
  obtain ⟨y0, y1, y2, y3, y4, y5, y6⟩ := hF2.below hb3
  clear hD2 hF2
  by_cases hz : a = 0
  · have hl : (((toL a).length : Int) == 0) = true := by rw [beq_iff_eq]; have := HL0.out.2 hz; omega
    have HZ := Lib.hid (show near fmS neg a x = 0 by unfold near; rw [if_pos hz])
    clear hz
    go_wp2
    go_ret2
    exact ⟨by rw [HZ.out]; rfl, hw3⟩
  · have hl : (((toL a).length : Int) == 0) = false := by
      have h1 : (toL a).length ≠ 0 := fun e => hz (HL0.out.1 e)
      rw [beq_eq_false_iff_ne]; omega
    have HZ := Lib.hid (show near fmS neg a x = sgn fmS neg (rsize fmS a x) by unfold near; rw [if_neg hz])
    have HA := Lib.hid hz
    clear hz
    have HWd := Lib.hid hw3.drew
    have H3 := Lib.hid (show NatAt w3 (.slice A (toL a).length c) a from H.out.below hw3)
    have hT3 := HT.out.below hw3
    have HT3 := Lib.hid hT3
    clear hT3
    go_wp2_with fail
    go_region_held3 (fun w' => w'.cell? ⟨w.heap.size, 0, none⟩ = some (.bool neg) ∧ w'.cell? ⟨w.heap.size, 1, none⟩ = some (.slice A (toL a).length c) ∧ w'.cell? ⟨w.heap.size, 2, none⟩ = some (.int .i64 x) ∧
        w'.cell? ⟨w1.heap.size, 0, none⟩ = some (.int .i64 24) ∧ w'.cell? ⟨w1.heap.size, 1, none⟩ = some (.int .i64 (-149)) ∧ w'.cell? ⟨w1.heap.size, 2, none⟩ = some (.int .i64 31) ∧ Hid (NatAt w' (.slice A (toL a).length c) a) ∧ Hid (Tab64 w') ∧ Hid (Below w.heap.size w w'))
      (first | exact ⟨x0, x1, x2, y0, y1, y2, Lib.hid (H3.out.below (below_draw' w3)), Lib.hid (HT3.out.below (below_draw' w3)), HWd⟩ | (go_split_ands; exact ⟨cell_kept hb5 (by assumption), cell_kept hb5 (by assumption), cell_kept hb5 (by assumption), cell_kept hb5 (by assumption), cell_kept hb5 (by assumption), cell_kept hb5 (by assumption), Lib.hid (NatAt.below (Hid.out (by assumption)) hb5), Lib.hid (Tab64.below (Hid.out (by assumption)) hb5), Lib.hid (below_chain (Hid.out (by assumption)) hb5)⟩))
      (first | (go_at_call 80; refine (size_walk_S _ a x _ (Hid.out (by assumption)) (Hid.out (by assumption)) HA.out hb (by omega) (by omega)).mono ?_; rintro e w5 ⟨rfl, hb5⟩) | (go_at_call 79; refine (signed_walk fmS (.inl rfl) neg (rsize fmS a x) (Nat.lt_of_le_of_lt (rsize_le _ _ _) (inf_lt _ (.inl rfl))) _).mono ?_; rintro e w5 ⟨rfl, hb5⟩))
    go_wp2
    go_ret2
    exact ⟨by rw [HZ.out]; rfl, below_chain (below_chain HWd.out (by assumption)) hb5⟩

set_option maxRecDepth 100000 in
set_option maxHeartbeats 1000000 in
theorem nearest_walk_D (neg : Bool) (s : Value) (a : Nat) (x : Int) (w : World) (h : NatAt w s a) (ht : Tab64 w) (hb : blen a ≤ 500000) (hn : neg = true → a ≠ 0) (hx : -1048576 ≤ x) (hx2 : x ≤ 1048576) (hodd : a ≠ 0 → a % 2 = 1) (hz0 : a = 0 → x = 0) :
    Calls Tryz.prog 37 #[.int .i64 64, .agg #[.bool neg, s, .int .i64 x]] w fun e w' => e = .returned (.tuple #[.int .u64 ((near fmD neg a x : Nat) : Int), .int .i64 0]) ∧ Below w.heap.size w w' := by
  have H := Lib.hid h
  have HT := Lib.hid ht
  obtain ⟨A, c, rfl, hc, hr⟩ := h
  have HN := Lib.hid hn
  have HO := Lib.hid hodd
  have HZ0 := Lib.hid hz0
  have HL0 := Lib.hid (toL_length_zero a)
  clear hr hn hodd hz0 ht
  have hD0 : Box3 (w.alloc (.cells #[.bool neg, .slice A (toL a).length c, .int .i64 x] 81)) w.heap.size (.bool neg) (.slice A (toL a).length c) (.int .i64 x) := ⟨by simp, by simp, by simp, by simp, by simp, by simp, by simp⟩
  have HD0 := Lib.hid hD0
  clear hD0
  go_enter Tryz.func37, Tryz.ntmps37
  go_wp2_with fail
  have hw0 : Below w.heap.size w (w.alloc (.cells #[.bool neg, .slice A (toL a).length c, .int .i64 x] 81)) := below_alloc' w _
  have hD0 := HD0.out
  clear HD0
  generalize w.alloc (.cells #[.bool neg, .slice A (toL a).length c, .int .i64 x] 81) = W0 at *
  refine (rof_double W0).mono ?_
  rintro e w1 ⟨rfl, hb1⟩
  rw [show fmD.val = .agg #[.int .i64 53, .int .i64 (-1074), .int .i64 63] from rfl]
  have hw1 := below_chain hw0 hb1
  have hD1 := hD0.below hb1
  have hw2 := below_chain hw1 (below_alloc' w1 (.cells #[.int .i64 53, .int .i64 (-1074), .int .i64 63] 124))
  have hD2 := hD1.below (below_alloc' w1 (.cells #[.int .i64 53, .int .i64 (-1074), .int .i64 63] 124))
  have hF2 : Box3 (w1.alloc (.cells #[.int .i64 53, .int .i64 (-1074), .int .i64 63] 124)) w1.heap.size (.int .i64 53) (.int .i64 (-1074)) (.int .i64 63) := ⟨by simp, by simp, by simp, by simp, by simp, by simp, by simp⟩
  have HF2 := Lib.hid hF2
  obtain ⟨x0, x1, x2, x3, x4, x5, x6⟩ := hD2
  clear hF2 hD0 hD1
  go_wp2_with fail
  have hD2 : Box3 (w1.alloc (.cells #[.int .i64 53, .int .i64 (-1074), .int .i64 63] 124)) w.heap.size (.bool neg) (.slice A (toL a).length c) (.int .i64 x) := ⟨x0, x1, x2, x3, x4, x5, x6⟩
  have hF2 := HF2.out
  clear HF2 x0 x1 x2 x3 x4 x5 x6
  generalize w1.alloc (.cells #[.int .i64 53, .int .i64 (-1074), .int .i64 63] 124) = W2 at *
  refine (dform_walk neg _ a x W2 (H.out.below hw2) (by omega) HN.out hx hx2 HO.out HZ0.out).mono ?_
  rintro e w3 ⟨rfl, hb3⟩
  have hw3 := below_chain hw2 hb3
  obtain ⟨x0, x1, x2, x3, x4, x5, x6⟩ := hD2.below hb3
  obtain ⟨y0, y1, y2, y3, y4, y5, y6⟩ := hF2.below hb3
  clear hD2 hF2
  by_cases hz : a = 0
  · have hl : (((toL a).length : Int) == 0) = true := by rw [beq_iff_eq]; have := HL0.out.2 hz; omega
    have HZ := Lib.hid (show near fmD neg a x = 0 by unfold near; rw [if_pos hz])
    clear hz
    go_wp2
    go_ret2
    exact ⟨by rw [HZ.out]; rfl, hw3⟩
  · have hl : (((toL a).length : Int) == 0) = false := by
      have h1 : (toL a).length ≠ 0 := fun e => hz (HL0.out.1 e)
      rw [beq_eq_false_iff_ne]; omega
    have HZ := Lib.hid (show near fmD neg a x = sgn fmD neg (rsize fmD a x) by unfold near; rw [if_neg hz])
    have HA := Lib.hid hz
    clear hz
    have HWd := Lib.hid hw3.drew
    have H3 := Lib.hid (show NatAt w3 (.slice A (toL a).length c) a from H.out.below hw3)
    have hT3 := HT.out.below hw3
    have HT3 := Lib.hid hT3
    clear hT3
    go_wp2_with fail
    go_region_held3 (fun w' => w'.cell? ⟨w.heap.size, 0, none⟩ = some (.bool neg) ∧ w'.cell? ⟨w.heap.size, 1, none⟩ = some (.slice A (toL a).length c) ∧ w'.cell? ⟨w.heap.size, 2, none⟩ = some (.int .i64 x) ∧
        w'.cell? ⟨w1.heap.size, 0, none⟩ = some (.int .i64 53) ∧ w'.cell? ⟨w1.heap.size, 1, none⟩ = some (.int .i64 (-1074)) ∧ w'.cell? ⟨w1.heap.size, 2, none⟩ = some (.int .i64 63) ∧ Hid (NatAt w' (.slice A (toL a).length c) a) ∧ Hid (Tab64 w') ∧ Hid (Below w.heap.size w w'))
      (first | exact ⟨x0, x1, x2, y0, y1, y2, Lib.hid (H3.out.below (below_draw' w3)), Lib.hid (HT3.out.below (below_draw' w3)), HWd⟩ | (go_split_ands; exact ⟨cell_kept hb5 (by assumption), cell_kept hb5 (by assumption), cell_kept hb5 (by assumption), cell_kept hb5 (by assumption), cell_kept hb5 (by assumption), cell_kept hb5 (by assumption), Lib.hid (NatAt.below (Hid.out (by assumption)) hb5), Lib.hid (Tab64.below (Hid.out (by assumption)) hb5), Lib.hid (below_chain (Hid.out (by assumption)) hb5)⟩))
      (first | (go_at_call 80; refine (size_walk_D _ a x _ (Hid.out (by assumption)) (Hid.out (by assumption)) HA.out hb (by omega) (by omega)).mono ?_; rintro e w5 ⟨rfl, hb5⟩) | (go_at_call 79; refine (signed_walk fmD (.inr rfl) neg (rsize fmD a x) (Nat.lt_of_le_of_lt (rsize_le _ _ _) (inf_lt _ (.inr rfl))) _).mono ?_; rintro e w5 ⟨rfl, hb5⟩))
    go_wp2
    go_ret2
    exact ⟨by rw [HZ.out]; rfl, below_chain (below_chain HWd.out (by assumption)) hb5⟩

end Go.Proofs.YtfacjlffkcbagaaGreatDoor
