/- Walks of round: size, for both formats (printed by gen_size.py). -/
import Derived.Test.YtfacjlffkcbagaaGreatDoorRa
import Derived.Deep.RegionHeld3
namespace Go.Proofs.YtfacjlffkcbagaaGreatDoor
open Go.RowKit

/-- The exponent of the last place. -/
def unitOf (f : Fm) (a : Nat) (x : Int) : Int := max (x + blen a - 1 - f.P + 1) f.L
/-- a * 2^x in units of the last place, rounded. -/
def unitsOf (f : Fm) (a : Nat) (x : Int) : Nat := if x ≤ unitOf f a x then rne a (unitOf f a x - x).toNat else a * 2 ^ (x - unitOf f a x).toNat
/-- The size of the pattern to which a * 2^x rounds; a is not nought. -/
def rsize (f : Fm) (a : Nat) (x : Int) : Nat :=
  if 1100 < x + blen a - 1 then f.inf else min ((unitOf f a x - f.L).toNat * 2 ^ (f.P - 1) + unitsOf f a x) f.inf
theorem rne_le {a n P : Nat} (h : blen a ≤ P + n) : rne a n ≤ 2 ^ P := by
  have h1 : a / 2 ^ n < 2 ^ P := by
    rw [Nat.div_lt_iff_lt_mul (Nat.two_pow_pos n), ← Nat.pow_add]; exact blen_le.1 h
  unfold rne
  split <;> omega
theorem unitsOf_le (f : Fm) (a : Nat) (x : Int) : unitsOf f a x ≤ 2 ^ f.P := by
  unfold unitsOf
  have hu : x + blen a - 1 - f.P + 1 ≤ unitOf f a x := by unfold unitOf; omega
  split
  · exact rne_le (by omega)
  · have h1 : blen a + (x - unitOf f a x).toNat ≤ f.P := by omega
    have h2 := Nat.mul_le_mul_right (2 ^ (x - unitOf f a x).toNat) (Nat.le_of_lt (blen_hi a))
    rw [← Nat.pow_add] at h2
    exact Nat.le_trans h2 (Nat.pow_le_pow_right (by omega) h1)
theorem size_end (H un u inf : Nat) (h : un * H + u < 18446744073709551616) :
    min (IntKind.u64.wrap (IntKind.u64.wrap ((un : Int) * (H : Int)) + (u : Int))) (inf : Int) = ((min (un * H + u) inf : Nat) : Int) := by
  rw [IntKind.wrap_u64, IntKind.wrap_u64, ← Int.natCast_mul]
  generalize un * H = z at *
  omega
theorem size_end0 (H un inf : Nat) (h : un * H < 18446744073709551616) :
    min (IntKind.u64.wrap (IntKind.u64.wrap ((un : Int) * (H : Int)))) (inf : Int) = ((min (un * H + 0) inf : Nat) : Int) := by
  rw [IntKind.wrap_u64, IntKind.wrap_u64, ← Int.natCast_mul]
  generalize un * H = z at *
  omega
theorem toL_small {u : Nat} (h : u < W64) (h0 : u ≠ 0) : toL u = [u] := by rw [toL_pos h0, Nat.mod_eq_of_lt h, Nat.div_eq_of_lt h, toL_zero]

set_option maxRecDepth 100000 in
set_option maxHeartbeats 1000000 in
theorem size_walk_S (s : Value) (a : Nat) (x : Int) (w : World) (h : NatAt w s a) (ht : Tab64 w) (ha : a ≠ 0) (hb : blen a ≤ 500000) (hx1 : -2000000 ≤ x) (hx2 : x ≤ 2000000) :
    Calls Tryz.prog 80 #[fmS.val, s, .int .i64 x] w fun e w' => e = .returned (.int .u64 ((rsize fmS a x : Nat) : Int)) ∧ Below w.heap.size w w' := by
  have H := Lib.hid h
  have HT := Lib.hid ht
  have hsz : (toL a).length ≤ 8192 := by rw [toL_length]; omega
  have hb1 := blen_pos ha
  obtain ⟨A, c, rfl, hc, hr⟩ := h
  have hbits := fun (w1 : World) (hw : Below w.heap.size w w1) => bits_walk A (toL a).length c (toL a) w1 rfl (hr.below hw) (Wd_toL a) hc (by omega)
  rw [vl_toL] at hbits
  have HBits := Lib.hid hbits
  clear hr ht hbits
  rw [show fmS.val = .agg #[.int .i64 24, .int .i64 (-149), .int .i64 31] from rfl]
  by_cases hbig : 1100 < x + blen a - 1
  · have HF := Lib.hid (show rsize fmS a x = fmS.inf by unfold rsize; rw [if_pos hbig])
    go_enter Tryz.func80, Tryz.ntmps80
    go_wp2_with (go_at_call 82; refine (HBits.out _ (below_alloc' w _)).mono ?_; rintro e w1 ⟨rfl, rfl⟩)
    refine (infinity_walk fmS (.inl rfl) _).mono ?_
    rintro e w1 ⟨rfl, hb1⟩
    go_wp2_with fail
    go_ret
    exact ⟨by rw [HF.out]; rfl, below_chain (below_alloc' w _) hb1⟩
  · have hge : (-149) ≤ unitOf fmS a x := by unfold unitOf fmS; simp only; omega
    obtain ⟨un, hun⟩ : ∃ un : Nat, unitOf fmS a x = (-149) + (un : Int) := ⟨(unitOf fmS a x - (-149)).toNat, by omega⟩
    clear hge
    have hunb : un ≤ 2200 := by unfold unitOf fmS at hun; simp only at hun; omega
    have hmx : max (x + (blen a : Int) - 1 - 24 + 1) (-149) = (-149) + (un : Int) := by rw [← hun]; rfl
    have hlow : x + (blen a : Int) - 1 - 24 + 1 ≤ (-149) + (un : Int) := by omega
    have hul := unitsOf_le fmS a x
    have HF := Lib.hid (show rsize fmS a x = min (un * 8388608 + unitsOf fmS a x) fmS.inf by
      unfold rsize; rw [if_neg hbig, hun]
      have e1 : ((-149) + (un : Int) - fmS.L).toNat = un := by unfold fmS; simp only; omega
      rw [e1]; rfl)
    have HUN := Lib.hid hun
    have HUL := Lib.hid hul
    clear hun hul
    have hW0 : Below w.heap.size w ((w.alloc (.cells #[.int .i64 24, .int .i64 (-149), .int .i64 31] 124)).alloc (.cells #[.bool false, .slice A (toL a).length c] 79)) := below_chain (below_alloc' w _) (below_alloc' _ _)
    have hX : Box3 ((w.alloc (.cells #[.int .i64 24, .int .i64 (-149), .int .i64 31] 124)).alloc (.cells #[.bool false, .slice A (toL a).length c] 79)) w.heap.size (.int .i64 24) (.int .i64 (-149)) (.int .i64 31) := ⟨by simp, by simp, by simp, by simp, by simp, by simp, by simp; omega⟩
    have hM : Box2 ((w.alloc (.cells #[.int .i64 24, .int .i64 (-149), .int .i64 31] 124)).alloc (.cells #[.bool false, .slice A (toL a).length c] 79)) (w.heap.size + 1) (.bool false) (.slice A (toL a).length c) := ⟨by simp, by simp, by simp, by simp, by simp⟩
    have HW0 := Lib.hid hW0
    have HX := Lib.hid hX
    have HM := Lib.hid hM
    clear hW0 hX hM
    by_cases hcs : x ≤ (-149) + (un : Int)
    · have hU := Lib.hid (show unitsOf fmS a x = rne a ((-149) + (un : Int) - x).toNat by unfold unitsOf; rw [HUN.out, if_pos hcs])
      go_enter Tryz.func80, Tryz.ntmps80
      go_wp2_with (go_at_call 82; refine (HBits.out _ (below_alloc' w _)).mono ?_; rintro e w1 ⟨rfl, rfl⟩)
      have hW0 := HW0.out
      have hX := HX.out
      have hM := HM.out
      clear HW0 HX HM
      generalize (w.alloc (.cells #[.int .i64 24, .int .i64 (-149), .int .i64 31] 124)).alloc (.cells #[.bool false, .slice A (toL a).length c] 79) = W0 at *
      refine (nearshr_walk _ a ((-149) + (un : Int) - x) W0 (H.out.below hW0) (HT.out.below hW0) (by omega) (by omega) (by omega)).mono ?_
      rintro e w1 ⟨s1, rfl, hn1, hb1⟩
      rw [← hU.out] at hn1
      clear hU
      have hw1 := below_chain hW0 hb1
      have hX1 := hX.below hb1
      have hM1 := hM.below hb1
      clear hX hM
      generalize unitsOf fmS a x = u at *
      have HBD := Lib.hid (show un * 8388608 + u < 18446744073709551616 ∧ un * 8388608 < 18446744073709551616 by have h9 := HUL.out; rw [show (2 : Nat) ^ fmS.P = 16777216 from rfl] at h9; omega)
      obtain ⟨m0, m1, m2, m3, m4⟩ := hM1
      have HN1 := Lib.hid hn1
      have HX1 := Lib.hid hX1
      obtain ⟨A1, c1, rfl, hc1, hr1⟩ := hn1
      clear hc1 hr1 hX1
      have huW : u < W64 := by have := HUL.out; rw [W64_num]; have e : 2 ^ fmS.P ≤ 2 ^ 53 := by decide
                               omega
      have q1 : ∀ y, (w1.setCell ⟨w.heap.size + 1, 0, none⟩ y).cell? ⟨w.heap.size + 1, 1, none⟩ = some (.slice A (toL a).length c) := fun y => by rw [cell_other (by simp)]; exact m1
      have hN2 := (HN1.out.write m0 (by simp) (.bool false)).write (q1 _) (by simp) (.slice A1 (toL u).length c1)
      have hw2 := (hw1.setCell (p := ⟨w.heap.size + 1, 0, none⟩) (by simp) (.bool false)).setCell (p := ⟨w.heap.size + 1, 1, none⟩) (by simp) (.slice A1 (toL u).length c1)
      have HN2 := Lib.hid hN2
      have HW2 := Lib.hid hw2
      clear q1 hN2 hw2
      have hW12 : Below (w.heap.size + 1) w1 ((w1.setCell ⟨w.heap.size + 1, 0, none⟩ (.bool false)).setCell ⟨w.heap.size + 1, 1, none⟩ (.slice A1 (toL u).length c1)) := ((Below.refl _ _).setCell (by simp) _).setCell (by simp) _
      have HX2 := HX1.out.low hW12 (by simp)
      have HXX := Lib.hid HX2
      clear hW12 HX2
      by_cases hu0 : u = 0
      · have hl0 : (toL u).length = 0 := by rw [hu0, toL_zero]; rfl
        have HU0 := Lib.hid hu0
        have hl1 : ¬ (0 : Int) < ((toL u).length : Int) := by omega
        have hl2 : decide ((0 : Int) < ((toL u).length : Int)) = false := decide_eq_false hl1
        clear hu0 hl0
        go_wp2_with fail
        have q1 : IntKind.i64.wrap ((-149) + (un : Int) + 149) = (un : Int) := by rw [IntWalk.i64_in _ (by omega)]; omega
        have q3 : IntKind.i64.wrap 23 = 23 := by decide
        have q2 : IntKind.u64.wrap (un : Int) = (un : Int) := by rw [IntKind.wrap_u64]; omega
        obtain ⟨x0, x1, x2, x3, x4, x5, x6⟩ := HXX.out
        have HWd := Lib.hid HW2.out.drew
        go_region_held3 (fun w' => w'.cell? ⟨w.heap.size, 0, none⟩ = some (.int .i64 24) ∧ w'.cell? ⟨w.heap.size, 1, none⟩ = some (.int .i64 (-149)) ∧ w'.cell? ⟨w.heap.size, 2, none⟩ = some (.int .i64 31) ∧ Hid (Below w.heap.size w w'))
          (first | exact ⟨x0, x1, x2, HWd⟩ | exact ⟨cell_kept hb5 (by assumption), cell_kept hb5 (by assumption), cell_kept hb5 (by assumption), Lib.hid (below_chain (Hid.out (by assumption)) hb5)⟩)
          (first | (go_at_call 126; refine (infinity_walk fmS (.inl rfl) _).mono ?_; rintro e w5 ⟨rfl, hb5⟩))
        go_wp2
        go_ret
        exact ⟨ret_int (by rw [HF.out, HU0.out]; exact size_end0 8388608 un _ HBD.out.2), below_chain HWd.out hb5⟩
      · have hl0 : (toL u).length = 1 := by rw [toL_small huW hu0]; rfl
        have hl1 : (0 : Int) < ((toL u).length : Int) := by omega
        obtain ⟨ad, e2, hck⟩ : ∃ ad, A1 = some ad ∧ ((w1.setCell ⟨w.heap.size + 1, 0, none⟩ (.bool false)).setCell ⟨w.heap.size + 1, 1, none⟩ (.slice A1 (toL u).length c1)).cell? ad = some (.int .u64 (u : Int)) := by
          obtain ⟨A2, c2, e2, hc2, hr2⟩ := HN2.out
          cases e2
          obtain ⟨ad, e3, hc3⟩ := hr2 (by omega)
          have h0 := hc3 0 (by omega)
          have e4 : el (toL u) 0 = u := by rw [toL_small huW hu0]; simp [el]
          rw [e4] at h0
          exact ⟨ad, e3, by simpa [Addr.add] using h0⟩
        subst e2
        clear hl0 hu0
        go_wp2_with fail
        have q1 : IntKind.i64.wrap ((-149) + (un : Int) + 149) = (un : Int) := by rw [IntWalk.i64_in _ (by omega)]; omega
        have q3 : IntKind.i64.wrap 23 = 23 := by decide
        have q2 : IntKind.u64.wrap (un : Int) = (un : Int) := by rw [IntKind.wrap_u64]; omega
        obtain ⟨x0, x1, x2, x3, x4, x5, x6⟩ := HXX.out
        have HWd := Lib.hid HW2.out.drew
        go_region_held3 (fun w' => w'.cell? ⟨w.heap.size, 0, none⟩ = some (.int .i64 24) ∧ w'.cell? ⟨w.heap.size, 1, none⟩ = some (.int .i64 (-149)) ∧ w'.cell? ⟨w.heap.size, 2, none⟩ = some (.int .i64 31) ∧ Hid (Below w.heap.size w w'))
          (first | exact ⟨x0, x1, x2, HWd⟩ | exact ⟨cell_kept hb5 (by assumption), cell_kept hb5 (by assumption), cell_kept hb5 (by assumption), Lib.hid (below_chain (Hid.out (by assumption)) hb5)⟩)
          (first | (go_at_call 126; refine (infinity_walk fmS (.inl rfl) _).mono ?_; rintro e w5 ⟨rfl, hb5⟩))
        go_wp2
        go_ret
        exact ⟨ret_int (by rw [HF.out]; exact size_end 8388608 un _ _ HBD.out.1), below_chain HWd.out hb5⟩
    · have hU := Lib.hid (show unitsOf fmS a x = a * 2 ^ (x - ((-149) + (un : Int))).toNat by unfold unitsOf; rw [HUN.out, if_neg hcs])
      go_enter Tryz.func80, Tryz.ntmps80
      go_wp2_with (go_at_call 82; refine (HBits.out _ (below_alloc' w _)).mono ?_; rintro e w1 ⟨rfl, rfl⟩)
      have hW0 := HW0.out
      have hX := HX.out
      have hM := HM.out
      clear HW0 HX HM
      generalize (w.alloc (.cells #[.int .i64 24, .int .i64 (-149), .int .i64 31] 124)).alloc (.cells #[.bool false, .slice A (toL a).length c] 79) = W0 at *
      refine (nshl_walk _ a (x - ((-149) + (un : Int))) W0 (H.out.below hW0) (by omega) (by omega)).mono ?_
      rintro e w1 ⟨s1, rfl, hn1, hb1⟩
      rw [← hU.out] at hn1
      clear hU
      have hw1 := below_chain hW0 hb1
      have hX1 := hX.below hb1
      have hM1 := hM.below hb1
      clear hX hM
      generalize unitsOf fmS a x = u at *
      have HBD := Lib.hid (show un * 8388608 + u < 18446744073709551616 ∧ un * 8388608 < 18446744073709551616 by have h9 := HUL.out; rw [show (2 : Nat) ^ fmS.P = 16777216 from rfl] at h9; omega)
      obtain ⟨m0, m1, m2, m3, m4⟩ := hM1
      have HN1 := Lib.hid hn1
      have HX1 := Lib.hid hX1
      obtain ⟨A1, c1, rfl, hc1, hr1⟩ := hn1
      clear hc1 hr1 hX1
      have huW : u < W64 := by have := HUL.out; rw [W64_num]; have e : 2 ^ fmS.P ≤ 2 ^ 53 := by decide
                               omega
      have q1 : ∀ y, (w1.setCell ⟨w.heap.size + 1, 0, none⟩ y).cell? ⟨w.heap.size + 1, 1, none⟩ = some (.slice A (toL a).length c) := fun y => by rw [cell_other (by simp)]; exact m1
      have hN2 := (HN1.out.write m0 (by simp) (.bool false)).write (q1 _) (by simp) (.slice A1 (toL u).length c1)
      have hw2 := (hw1.setCell (p := ⟨w.heap.size + 1, 0, none⟩) (by simp) (.bool false)).setCell (p := ⟨w.heap.size + 1, 1, none⟩) (by simp) (.slice A1 (toL u).length c1)
      have HN2 := Lib.hid hN2
      have HW2 := Lib.hid hw2
      clear q1 hN2 hw2
      have hW12 : Below (w.heap.size + 1) w1 ((w1.setCell ⟨w.heap.size + 1, 0, none⟩ (.bool false)).setCell ⟨w.heap.size + 1, 1, none⟩ (.slice A1 (toL u).length c1)) := ((Below.refl _ _).setCell (by simp) _).setCell (by simp) _
      have HX2 := HX1.out.low hW12 (by simp)
      have HXX := Lib.hid HX2
      clear hW12 HX2
      by_cases hu0 : u = 0
      · have hl0 : (toL u).length = 0 := by rw [hu0, toL_zero]; rfl
        have HU0 := Lib.hid hu0
        have hl1 : ¬ (0 : Int) < ((toL u).length : Int) := by omega
        have hl2 : decide ((0 : Int) < ((toL u).length : Int)) = false := decide_eq_false hl1
        clear hu0 hl0
        go_wp2_with fail
        have q1 : IntKind.i64.wrap ((-149) + (un : Int) + 149) = (un : Int) := by rw [IntWalk.i64_in _ (by omega)]; omega
        have q3 : IntKind.i64.wrap 23 = 23 := by decide
        have q2 : IntKind.u64.wrap (un : Int) = (un : Int) := by rw [IntKind.wrap_u64]; omega
        obtain ⟨x0, x1, x2, x3, x4, x5, x6⟩ := HXX.out
        have HWd := Lib.hid HW2.out.drew
        go_region_held3 (fun w' => w'.cell? ⟨w.heap.size, 0, none⟩ = some (.int .i64 24) ∧ w'.cell? ⟨w.heap.size, 1, none⟩ = some (.int .i64 (-149)) ∧ w'.cell? ⟨w.heap.size, 2, none⟩ = some (.int .i64 31) ∧ Hid (Below w.heap.size w w'))
          (first | exact ⟨x0, x1, x2, HWd⟩ | exact ⟨cell_kept hb5 (by assumption), cell_kept hb5 (by assumption), cell_kept hb5 (by assumption), Lib.hid (below_chain (Hid.out (by assumption)) hb5)⟩)
          (first | (go_at_call 126; refine (infinity_walk fmS (.inl rfl) _).mono ?_; rintro e w5 ⟨rfl, hb5⟩))
        go_wp2
        go_ret
        exact ⟨ret_int (by rw [HF.out, HU0.out]; exact size_end0 8388608 un _ HBD.out.2), below_chain HWd.out hb5⟩
      · have hl0 : (toL u).length = 1 := by rw [toL_small huW hu0]; rfl
        have hl1 : (0 : Int) < ((toL u).length : Int) := by omega
        obtain ⟨ad, e2, hck⟩ : ∃ ad, A1 = some ad ∧ ((w1.setCell ⟨w.heap.size + 1, 0, none⟩ (.bool false)).setCell ⟨w.heap.size + 1, 1, none⟩ (.slice A1 (toL u).length c1)).cell? ad = some (.int .u64 (u : Int)) := by
          obtain ⟨A2, c2, e2, hc2, hr2⟩ := HN2.out
          cases e2
          obtain ⟨ad, e3, hc3⟩ := hr2 (by omega)
          have h0 := hc3 0 (by omega)
          have e4 : el (toL u) 0 = u := by rw [toL_small huW hu0]; simp [el]
          rw [e4] at h0
          exact ⟨ad, e3, by simpa [Addr.add] using h0⟩
        subst e2
        clear hl0 hu0
        go_wp2_with fail
        have q1 : IntKind.i64.wrap ((-149) + (un : Int) + 149) = (un : Int) := by rw [IntWalk.i64_in _ (by omega)]; omega
        have q3 : IntKind.i64.wrap 23 = 23 := by decide
        have q2 : IntKind.u64.wrap (un : Int) = (un : Int) := by rw [IntKind.wrap_u64]; omega
        obtain ⟨x0, x1, x2, x3, x4, x5, x6⟩ := HXX.out
        have HWd := Lib.hid HW2.out.drew
        go_region_held3 (fun w' => w'.cell? ⟨w.heap.size, 0, none⟩ = some (.int .i64 24) ∧ w'.cell? ⟨w.heap.size, 1, none⟩ = some (.int .i64 (-149)) ∧ w'.cell? ⟨w.heap.size, 2, none⟩ = some (.int .i64 31) ∧ Hid (Below w.heap.size w w'))
          (first | exact ⟨x0, x1, x2, HWd⟩ | exact ⟨cell_kept hb5 (by assumption), cell_kept hb5 (by assumption), cell_kept hb5 (by assumption), Lib.hid (below_chain (Hid.out (by assumption)) hb5)⟩)
          (first | (go_at_call 126; refine (infinity_walk fmS (.inl rfl) _).mono ?_; rintro e w5 ⟨rfl, hb5⟩))
        go_wp2
        go_ret
        exact ⟨ret_int (by rw [HF.out]; exact size_end 8388608 un _ _ HBD.out.1), below_chain HWd.out hb5⟩

end Go.Proofs.YtfacjlffkcbagaaGreatDoor
