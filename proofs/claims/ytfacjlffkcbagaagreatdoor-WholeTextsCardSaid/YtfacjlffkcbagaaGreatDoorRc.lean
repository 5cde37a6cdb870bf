/- The walk of (round.widths).size for Double (printed by gen_size.py). -/
import Derived.Test.YtfacjlffkcbagaaGreatDoorRb
namespace Go.Proofs.YtfacjlffkcbagaaGreatDoor
open Go.RowKit

set_option maxRecDepth 100000 in
set_option maxHeartbeats 1000000 in
theorem size_walk_D (s : Value) (a : Nat) (x : Int) (w : World) (h : NatAt w s a) (ht : Tab64 w) (ha : a ≠ 0) (hb : blen a ≤ 500000) (hx1 : -2000000 ≤ x) (hx2 : x ≤ 2000000) :
    Calls Tryz.prog 80 #[fmD.val, s, .int .i64 x] w fun e w' => e = .returned (.int .u64 ((rsize fmD a x : Nat) : Int)) ∧ Below w.heap.size w w' := by
  have H := Lib.hid h
  have HT := Lib.hid ht
  have hsz : (toL a).length ≤ 8192 := by rw [toL_length]; omega
  have hb1 := blen_pos ha
  obtain ⟨A, c, rfl, hc, hr⟩ := h
  have hbits := fun (w1 : World) (hw : Below w.heap.size w w1) => bits_walk A (toL a).length c (toL a) w1 rfl (hr.below hw) (Wd_toL a) hc (by omega)
  rw [vl_toL] at hbits
  have HBits := Lib.hid hbits
  clear hr ht hbits
  rw [show fmD.val = .agg #[.int .i64 53, .int .i64 (-1074), .int .i64 63] from rfl]
  by_cases hbig : 1100 < x + blen a - 1
  · have HF := Lib.hid (show rsize fmD a x = fmD.inf by unfold rsize; rw [if_pos hbig])
    go_enter Tryz.func80, Tryz.ntmps80
    go_wp2_with (go_at_call 82; refine (HBits.out _ (below_alloc' w _)).mono ?_; rintro e w1 ⟨rfl, rfl⟩)
    refine (infinity_walk fmD (.inr rfl) _).mono ?_
    rintro e w1 ⟨rfl, hb1⟩
    go_wp2_with fail
    go_ret
    exact ⟨by rw [HF.out]; rfl, below_chain (below_alloc' w _) hb1⟩
  · have hge : (-1074) ≤ unitOf fmD a x := by unfold unitOf fmD; simp only; omega
    obtain ⟨un, hun⟩ : ∃ un : Nat, unitOf fmD a x = (-1074) + (un : Int) := ⟨(unitOf fmD a x - (-1074)).toNat, by omega⟩
    clear hge
    have hunb : un ≤ 2200 := by unfold unitOf fmD at hun; simp only at hun; omega
    have hmx : max (x + (blen a : Int) - 1 - 53 + 1) (-1074) = (-1074) + (un : Int) := by rw [← hun]; rfl
    have hlow : x + (blen a : Int) - 1 - 53 + 1 ≤ (-1074) + (un : Int) := by omega
    have hul := unitsOf_le fmD a x
    have HF := Lib.hid (show rsize fmD a x = min (un * 4503599627370496 + unitsOf fmD a x) fmD.inf by
      unfold rsize; rw [if_neg hbig, hun]
      have e1 : ((-1074) + (un : Int) - fmD.L).toNat = un := by unfold fmD; simp only; omega
      rw [e1]; rfl)
    have HUN := Lib.hid hun
    have HUL := Lib.hid hul
    clear hun hul
    have hW0 : Below w.heap.size w ((w.alloc (.cells #[.int .i64 53, .int .i64 (-1074), .int .i64 63] 124)).alloc (.cells #[.bool false, .slice A (toL a).length c] 79)) := below_chain (below_alloc' w _) (below_alloc' _ _)
    have hX : Box3 ((w.alloc (.cells #[.int .i64 53, .int .i64 (-1074), .int .i64 63] 124)).alloc (.cells #[.bool false, .slice A (toL a).length c] 79)) w.heap.size (.int .i64 53) (.int .i64 (-1074)) (.int .i64 63) := ⟨by simp, by simp, by simp, by simp, by simp, by simp, by simp; omega⟩
    have hM : Box2 ((w.alloc (.cells #[.int .i64 53, .int .i64 (-1074), .int .i64 63] 124)).alloc (.cells #[.bool false, .slice A (toL a).length c] 79)) (w.heap.size + 1) (.bool false) (.slice A (toL a).length c) := ⟨by simp, by simp, by simp, by simp, by simp⟩
    have HW0 := Lib.hid hW0
    have HX := Lib.hid hX
    have HM := Lib.hid hM
    clear hW0 hX hM
    by_cases hcs : x ≤ (-1074) + (un : Int)
    · have hU := Lib.hid (show unitsOf fmD a x = rne a ((-1074) + (un : Int) - x).toNat by unfold unitsOf; rw [HUN.out, if_pos hcs])
      go_enter Tryz.func80, Tryz.ntmps80
      go_wp2_with (go_at_call 82; refine (HBits.out _ (below_alloc' w _)).mono ?_; rintro e w1 ⟨rfl, rfl⟩)
      have hW0 := HW0.out
      have hX := HX.out
      have hM := HM.out
      clear HW0 HX HM
      generalize (w.alloc (.cells #[.int .i64 53, .int .i64 (-1074), .int .i64 63] 124)).alloc (.cells #[.bool false, .slice A (toL a).length c] 79) = W0 at *
      refine (nearshr_walk _ a ((-1074) + (un : Int) - x) W0 (H.out.below hW0) (HT.out.below hW0) (by omega) (by omega) (by omega)).mono ?_
      rintro e w1 ⟨s1, rfl, hn1, hb1⟩
      rw [← hU.out] at hn1
      clear hU
      have hw1 := below_chain hW0 hb1
      have hX1 := hX.below hb1
      have hM1 := hM.below hb1
      clear hX hM
      generalize unitsOf fmD a x = u at *
      have HBD := Lib.hid (show un * 4503599627370496 + u < 18446744073709551616 ∧ un * 4503599627370496 < 18446744073709551616 by have h9 := HUL.out; rw [show (2 : Nat) ^ fmD.P = 9007199254740992 from rfl] at h9; omega)
      obtain ⟨m0, m1, m2, m3, m4⟩ := hM1
      have HN1 := Lib.hid hn1
      have HX1 := Lib.hid hX1
      obtain ⟨A1, c1, rfl, hc1, hr1⟩ := hn1
      clear hc1 hr1 hX1
      have huW : u < W64 := by have := HUL.out; rw [W64_num]; have e : 2 ^ fmD.P ≤ 2 ^ 53 := by decide
                               omega
      have q1 : ∀ y, (w1.setCell ⟨w.heap.size + 1, 0, none⟩ y).cell? ⟨w.heap.size + 1, 1, none⟩ = some (.slice A (toL a).length c) := fun y => by rw [cell_other (by simp)]; exact m1
      have hN2 := (HN1.out.write m0 (by simp) (.bool false)).write (q1 _) (by simp) (.slice A1 (toL u).length c1)
      have hw2 := (hw1.setCell (p := ⟨w.heap.size + 1, 0, none⟩) (by simp) (.bool false)).setCell (p := ⟨w.heap.size + 1, 1, none⟩) (by simp) (.slice A1 (toL u).length c1)
      have HN2 := Lib.hid hN2
      have HW2 := Lib.hid hw2
      clear q1 hN2 hw2
      have hW12 : Below (w.heap.size + 1) w1 ((w1.setCell ⟨w.heap.size + 1, 0, none⟩ (.bool false)).setCell ⟨w.heap.size + 1, 1, none⟩ (.slice A1 (toL u).length c1)) := ((Below.refl _ _).setCell (by simp) _).setCell (by simp) _
      have HX2 := HX1.out.low hW12 (by simp)
      have HXX := Lib.hid HX2
      clear hW12 HX2
      by_cases hu0 : u = 0
      · have hl0 : (toL u).length = 0 := by rw [hu0, toL_zero]; rfl
        have HU0 := Lib.hid hu0
        have hl1 : ¬ (0 : Int) < ((toL u).length : Int) := by omega
        have hl2 : decide ((0 : Int) < ((toL u).length : Int)) = false := decide_eq_false hl1
        clear hu0 hl0
        go_wp2_with fail
        have q1 : IntKind.i64.wrap ((-1074) + (un : Int) + 1074) = (un : Int) := by rw [IntWalk.i64_in _ (by omega)]; omega
        have q3 : IntKind.i64.wrap 52 = 52 := by decide
        have q2 : IntKind.u64.wrap (un : Int) = (un : Int) := by rw [IntKind.wrap_u64]; omega
        obtain ⟨x0, x1, x2, x3, x4, x5, x6⟩ := HXX.out
        have HWd := Lib.hid HW2.out.drew
        go_region_held3 (fun w' => w'.cell? ⟨w.heap.size, 0, none⟩ = some (.int .i64 53) ∧ w'.cell? ⟨w.heap.size, 1, none⟩ = some (.int .i64 (-1074)) ∧ w'.cell? ⟨w.heap.size, 2, none⟩ = some (.int .i64 63) ∧ Hid (Below w.heap.size w w'))
          (first | exact ⟨x0, x1, x2, HWd⟩ | exact ⟨cell_kept hb5 (by assumption), cell_kept hb5 (by assumption), cell_kept hb5 (by assumption), Lib.hid (below_chain (Hid.out (by assumption)) hb5)⟩)
          (first | (go_at_call 126; refine (infinity_walk fmD (.inr rfl) _).mono ?_; rintro e w5 ⟨rfl, hb5⟩))
        go_wp2
        go_ret
        exact ⟨ret_int (by rw [HF.out, HU0.out]; exact size_end0 4503599627370496 un _ HBD.out.2), below_chain HWd.out hb5⟩
      · have hl0 : (toL u).length = 1 := by rw [toL_small huW hu0]; rfl
        have hl1 : (0 : Int) < ((toL u).length : Int) := by omega
        obtain ⟨ad, e2, hck⟩ : ∃ ad, A1 = some ad ∧ ((w1.setCell ⟨w.heap.size + 1, 0, none⟩ (.bool false)).setCell ⟨w.heap.size + 1, 1, none⟩ (.slice A1 (toL u).length c1)).cell? ad = some (.int .u64 (u : Int)) := by
          obtain ⟨A2, c2, e2, hc2, hr2⟩ := HN2.out
          cases e2
          obtain ⟨ad, e3, hc3⟩ := hr2 (by omega)
          have h0 := hc3 0 (by omega)
          have e4 : el (toL u) 0 = u := by rw [toL_small huW hu0]; simp [el]
          rw [e4] at h0
          exact ⟨ad, e3, by simpa [Addr.add] using h0⟩
        subst e2
        clear hl0 hu0
        go_wp2_with fail
        have q1 : IntKind.i64.wrap ((-1074) + (un : Int) + 1074) = (un : Int) := by rw [IntWalk.i64_in _ (by omega)]; omega
        have q3 : IntKind.i64.wrap 52 = 52 := by decide
        have q2 : IntKind.u64.wrap (un : Int) = (un : Int) := by rw [IntKind.wrap_u64]; omega
        obtain ⟨x0, x1, x2, x3, x4, x5, x6⟩ := HXX.out
        have HWd := Lib.hid HW2.out.drew
        go_region_held3 (fun w' => w'.cell? ⟨w.heap.size, 0, none⟩ = some (.int .i64 53) ∧ w'.cell? ⟨w.heap.size, 1, none⟩ = some (.int .i64 (-1074)) ∧ w'.cell? ⟨w.heap.size, 2, none⟩ = some (.int .i64 63) ∧ Hid (Below w.heap.size w w'))
          (first | exact ⟨x0, x1, x2, HWd⟩ | exact ⟨cell_kept hb5 (by assumption), cell_kept hb5 (by assumption), cell_kept hb5 (by assumption), Lib.hid (below_chain (Hid.out (by assumption)) hb5)⟩)
          (first | (go_at_call 126; refine (infinity_walk fmD (.inr rfl) _).mono ?_; rintro e w5 ⟨rfl, hb5⟩))
        go_wp2
        go_ret
        exact ⟨ret_int (by rw [HF.out]; exact size_end 4503599627370496 un _ _ HBD.out.1), below_chain HWd.out hb5⟩
    · have hU := Lib.hid (show unitsOf fmD a x = a * 2 ^ (x - ((-1074) + (un : Int))).toNat by unfold unitsOf; rw [HUN.out, if_neg hcs])
      go_enter Tryz.func80, Tryz.ntmps80
      go_wp2_with (go_at_call 82; refine (HBits.out _ (below_alloc' w _)).mono ?_; rintro e w1 ⟨rfl, rfl⟩)
      have hW0 := HW0.out
      have hX := HX.out
      have hM := HM.out
      clear HW0 HX HM
      generalize (w.alloc (.cells #[.int .i64 53, .int .i64 (-1074), .int .i64 63] 124)).alloc (.cells #[.bool false, .slice A (toL a).length c] 79) = W0 at *
      refine (nshl_walk _ a (x - ((-1074) + (un : Int))) W0 (H.out.below hW0) (by omega) (by omega)).mono ?_
      rintro e w1 ⟨s1, rfl, hn1, hb1⟩
      rw [← hU.out] at hn1
      clear hU
      have hw1 := below_chain hW0 hb1
      have hX1 := hX.below hb1
      have hM1 := hM.below hb1
      clear hX hM
      generalize unitsOf fmD a x = u at *
      have HBD := Lib.hid (show un * 4503599627370496 + u < 18446744073709551616 ∧ un * 4503599627370496 < 18446744073709551616 by have h9 := HUL.out; rw [show (2 : Nat) ^ fmD.P = 9007199254740992 from rfl] at h9; omega)
      obtain ⟨m0, m1, m2, m3, m4⟩ := hM1
      have HN1 := Lib.hid hn1
      have HX1 := Lib.hid hX1
      obtain ⟨A1, c1, rfl, hc1, hr1⟩ := hn1
      clear hc1 hr1 hX1
      have huW : u < W64 := by have := HUL.out; rw [W64_num]; have e : 2 ^ fmD.P ≤ 2 ^ 53 := by decide
                               omega
      have q1 : ∀ y, (w1.setCell ⟨w.heap.size + 1, 0, none⟩ y).cell? ⟨w.heap.size + 1, 1, none⟩ = some (.slice A (toL a).length c) := fun y => by rw [cell_other (by simp)]; exact m1
      have hN2 := (HN1.out.write m0 (by simp) (.bool false)).write (q1 _) (by simp) (.slice A1 (toL u).length c1)
      have hw2 := (hw1.setCell (p := ⟨w.heap.size + 1, 0, none⟩) (by simp) (.bool false)).setCell (p := ⟨w.heap.size + 1, 1, none⟩) (by simp) (.slice A1 (toL u).length c1)
      have HN2 := Lib.hid hN2
      have HW2 := Lib.hid hw2
      clear q1 hN2 hw2
      have hW12 : Below (w.heap.size + 1) w1 ((w1.setCell ⟨w.heap.size + 1, 0, none⟩ (.bool false)).setCell ⟨w.heap.size + 1, 1, none⟩ (.slice A1 (toL u).length c1)) := ((Below.refl _ _).setCell (by simp) _).setCell (by simp) _
      have HX2 := HX1.out.low hW12 (by simp)
      have HXX := Lib.hid HX2
      clear hW12 HX2
      by_cases hu0 : u = 0
      · have hl0 : (toL u).length = 0 := by rw [hu0, toL_zero]; rfl
        have HU0 := Lib.hid hu0
        have hl1 : ¬ (0 : Int) < ((toL u).length : Int) := by omega
        have hl2 : decide ((0 : Int) < ((toL u).length : Int)) = false := decide_eq_false hl1
        clear hu0 hl0
        go_wp2_with fail
        have q1 : IntKind.i64.wrap ((-1074) + (un : Int) + 1074) = (un : Int) := by rw [IntWalk.i64_in _ (by omega)]; omega
        have q3 : IntKind.i64.wrap 52 = 52 := by decide
        have q2 : IntKind.u64.wrap (un : Int) = (un : Int) := by rw [IntKind.wrap_u64]; omega
        obtain ⟨x0, x1, x2, x3, x4, x5, x6⟩ := HXX.out
        have HWd := Lib.hid HW2.out.drew
        go_region_held3 (fun w' => w'.cell? ⟨w.heap.size, 0, none⟩ = some (.int .i64 53) ∧ w'.cell? ⟨w.heap.size, 1, none⟩ = some (.int .i64 (-1074)) ∧ w'.cell? ⟨w.heap.size, 2, none⟩ = some (.int .i64 63) ∧ Hid (Below w.heap.size w w'))
          (first | exact ⟨x0, x1, x2, HWd⟩ | exact ⟨cell_kept hb5 (by assumption), cell_kept hb5 (by assumption), cell_kept hb5 (by assumption), Lib.hid (below_chain (Hid.out (by assumption)) hb5)⟩)
          (first | (go_at_call 126; refine (infinity_walk fmD (.inr rfl) _).mono ?_; rintro e w5 ⟨rfl, hb5⟩))
        go_wp2
        go_ret
        exact ⟨ret_int (by rw [HF.out, HU0.out]; exact size_end0 4503599627370496 un _ HBD.out.2), below_chain HWd.out hb5⟩
      · have hl0 : (toL u).length = 1 := by rw [toL_small huW hu0]; rfl
        have hl1 : (0 : Int) < ((toL u).length : Int) := by omega
        obtain ⟨ad, e2, hck⟩ : ∃ ad, A1 = some ad ∧ ((w1.setCell ⟨w.heap.size + 1, 0, none⟩ (.bool false)).setCell ⟨w.heap.size + 1, 1, none⟩ (.slice A1 (toL u).length c1)).cell? ad = some (.int .u64 (u : Int)) := by
          obtain ⟨A2, c2, e2, hc2, hr2⟩ := HN2.out
          cases e2
          obtain ⟨ad, e3, hc3⟩ := hr2 (by omega)
          have h0 := hc3 0 (by omega)
          have e4 : el (toL u) 0 = u := by rw [toL_small huW hu0]; simp [el]
          rw [e4] at h0
          exact ⟨ad, e3, by simpa [Addr.add] using h0⟩
        subst e2
        clear hl0 hu0
        go_wp2_with fail
        have q1 : IntKind.i64.wrap ((-1074) + (un : Int) + 1074) = (un : Int) := by rw [IntWalk.i64_in _ (by omega)]; omega
        have q3 : IntKind.i64.wrap 52 = 52 := by decide
        have q2 : IntKind.u64.wrap (un : Int) = (un : Int) := by rw [IntKind.wrap_u64]; omega
        obtain ⟨x0, x1, x2, x3, x4, x5, x6⟩ := HXX.out
        have HWd := Lib.hid HW2.out.drew
        go_region_held3 (fun w' => w'.cell? ⟨w.heap.size, 0, none⟩ = some (.int .i64 53) ∧ w'.cell? ⟨w.heap.size, 1, none⟩ = some (.int .i64 (-1074)) ∧ w'.cell? ⟨w.heap.size, 2, none⟩ = some (.int .i64 63) ∧ Hid (Below w.heap.size w w'))
          (first | exact ⟨x0, x1, x2, HWd⟩ | exact ⟨cell_kept hb5 (by assumption), cell_kept hb5 (by assumption), cell_kept hb5 (by assumption), Lib.hid (below_chain (Hid.out (by assumption)) hb5)⟩)
          (first | (go_at_call 126; refine (infinity_walk fmD (.inr rfl) _).mono ?_; rintro e w5 ⟨rfl, hb5⟩))
        go_wp2
        go_ret
        exact ⟨ret_int (by rw [HF.out]; exact size_end 4503599627370496 un _ _ HBD.out.1), below_chain HWd.out hb5⟩

end Go.Proofs.YtfacjlffkcbagaaGreatDoor
