/- Walks of hexfloat: pattern, for both formats (printed by gen_pat.py). -/
import Derived.Test.YtooehlneoboenaaGreatDoorHc
namespace Go.Proofs.YtooehlneoboenaaGreatDoor
open Go.RowKit

/-- The pattern to which a * 2^x rounds, however great or small. -/
def hxPat (f : Fm) (a : Nat) (x : Int) : Nat :=
  if a = 0 ∨ blen a + x < -2000 then 0 else if 2000 < blen a + x then near f false 1 2000 else near f false (a / 2 ^ tz a) (x + tz a)
theorem odd_part {a : Nat} (h : a ≠ 0) : (a / 2 ^ tz a) % 2 = 1 ∧ blen (a / 2 ^ tz a) ≤ blen a ∧ a / 2 ^ tz a ≠ 0 := by
  obtain ⟨m, hm⟩ := tz_spec h
  have e : a / 2 ^ tz a = 2 * m + 1 := by
    conv => lhs; arg 1; rw [hm]
    exact Nat.mul_div_cancel_left _ (Nat.two_pow_pos _)
  exact ⟨by rw [e]; omega, blen_mono (Nat.div_le_self _ _), by rw [e]; omega⟩
theorem tz_one : tz 1 = 0 := tz_odd rfl

set_option maxRecDepth 100000 in
set_option maxHeartbeats 1000000 in
theorem pattern_walk_S (s : Value) (a : Nat) (x : Int) (w : World) (h : NatAt w s a) (ht : Tab64 w) (hb : blen a ≤ 100000) (hx : -4000000000000 ≤ x) (hx2 : x ≤ 4000000000000) :
    Calls Tryz.prog 31 #[.int .i64 32, s, .int .i64 x] w fun e w' => e = .returned (.tuple #[.int .u64 ((hxPat fmS a x : Nat) : Int), .int .i64 0]) ∧ Below w.heap.size w w' := by
  have H := Lib.hid h
  have HT := Lib.hid ht
  have hsz : (toL a).length ≤ 8192 := by rw [toL_length]; omega
  obtain ⟨A, c, rfl, hc, hr⟩ := h
  have hbits := bits_walk A (toL a).length c (toL a) w rfl hr (Wd_toL a) hc (by omega)
  rw [vl_toL] at hbits
  have HBits := Lib.hid hbits
  have HL0 := Lib.hid (toL_length_zero a)
  clear hr ht hbits
  by_cases hz : a = 0
  · have hl : (((toL a).length : Int) == 0) = true := by rw [beq_iff_eq]; have := HL0.out.2 hz; omega
    have HF := Lib.hid (show hxPat fmS a x = 0 by unfold hxPat; rw [if_pos (.inl hz)])
    clear hz
    go_enter Tryz.func31, Tryz.ntmps31
    go_wp2_with (go_at_call 54; refine HBits.out.mono ?_; rintro e w1 ⟨rfl, rfl⟩)
    go_ret2
    exact ⟨by rw [HF.out]; rfl, Below.refl _ _⟩
  · have hl : (((toL a).length : Int) == 0) = false := by
      have h1 : (toL a).length ≠ 0 := fun e => hz (HL0.out.1 e)
      rw [beq_eq_false_iff_ne]; omega
    have HA := Lib.hid hz
    clear hz
    by_cases hlow : (blen a : Int) + x < -2000
    · have HF := Lib.hid (show hxPat fmS a x = 0 by unfold hxPat; rw [if_pos (.inr hlow)])
      go_enter Tryz.func31, Tryz.ntmps31
      go_wp2_with (go_at_call 54; refine HBits.out.mono ?_; rintro e w1 ⟨rfl, rfl⟩)
      go_ret2
      exact ⟨by rw [HF.out]; rfl, Below.refl _ _⟩
    · have d1 : decide ((blen a : Int) + x < -2000) = false := decide_eq_false hlow
      by_cases hhi : 2000 < (blen a : Int) + x
      · have d2 : decide (2000 < (blen a : Int) + x) = true := decide_eq_true hhi
        have HF := Lib.hid (show hxPat fmS a x = near fmS false 1 2000 by unfold hxPat; rw [if_neg (fun h => h.elim HA.out hlow), if_pos hhi])
        go_enter Tryz.func31, Tryz.ntmps31
        go_wp2_with (go_at_call 54; refine HBits.out.mono ?_; rintro e w1 ⟨rfl, rfl⟩)
        refine (word_walk 1 w (by rw [W64_num]; omega)).mono ?_
        rintro e w1 ⟨s1, rfl, hn1, hb1⟩
        have HN1 := Lib.hid hn1
        obtain ⟨A1, c1, rfl, hc1, hr1⟩ := hn1
        clear hc1 hr1
        go_wp2_with fail
        refine (make_walk false _ 1 2000 w1 HN1.out (HT.out.below hb1) (by decide) (by simp) (by omega) (by omega) (by rw [tz_one]; omega) (by rw [tz_one]; omega)).mono ?_
        rintro e w2 ⟨s2, rfl, hn2, hb2⟩
        rw [show dexp 1 2000 = 2000 by unfold dexp; rw [tz_one]; rfl]
        rw [tz_one, show 1 / 2 ^ 0 = 1 from rfl] at hn2
        have hw2 := below_chain hb1 hb2
        have HN2 := Lib.hid hn2
        obtain ⟨A2, c2, rfl, hc2, hr2⟩ := hn2
        clear hc2 hr2
        go_wp2_with fail
        have hb3 := below_alloc' w2 (.cells #[.bool false, .slice A2 (toL 1).length c2, .int .i64 2000] 106)
        refine (nearest_walk_S false _ 1 2000 _ (HN2.out.below hb3) (HT.out.below (below_chain hw2 hb3)) (by decide) (by simp) (by omega) (by omega) (fun _ => rfl) (by omega)).mono ?_
        rintro e w4 ⟨rfl, hb4⟩
        go_wp2
        go_ret2
        exact ⟨by rw [HF.out]; rfl, below_chain (below_chain hw2 hb3) hb4⟩
      · have d2 : decide (2000 < (blen a : Int) + x) = false := decide_eq_false hhi
        have HF := Lib.hid (show hxPat fmS a x = near fmS false (a / 2 ^ tz a) (x + tz a) by unfold hxPat; rw [if_neg (fun h => h.elim HA.out hlow), if_neg hhi])
        have htz := tz_le HA.out
        have hop := odd_part HA.out
        have HOP := Lib.hid hop
        clear hop
        go_enter Tryz.func31, Tryz.ntmps31
        go_wp2_with (go_at_call 54; refine HBits.out.mono ?_; rintro e w1 ⟨rfl, rfl⟩)
        refine (make_walk false _ a x w H.out HT.out (by omega) (by simp) (by omega) (by omega) (fun _ => by omega) (fun _ => by omega)).mono ?_
        rintro e w2 ⟨s2, rfl, hn2, hb2⟩
        rw [show dexp a x = x + tz a by unfold dexp; rw [if_neg HA.out]]
        have HN2 := Lib.hid hn2
        obtain ⟨A2, c2, rfl, hc2, hr2⟩ := hn2
        clear hc2 hr2
        go_wp2_with fail
        have hb3 := below_alloc' w2 (.cells #[.bool false, .slice A2 (toL (a / 2 ^ tz a)).length c2, .int .i64 (x + tz a)] 106)
        refine (nearest_walk_S false _ (a / 2 ^ tz a) (x + tz a) _ (HN2.out.below hb3) (HT.out.below (below_chain hb2 hb3)) (by have := HOP.out.2.1; omega) (by simp) (by omega) (by omega) (fun _ => HOP.out.1) (fun e => absurd e HOP.out.2.2)).mono ?_
        rintro e w4 ⟨rfl, hb4⟩
        go_wp2
        go_ret2
        exact ⟨by rw [HF.out]; rfl, below_chain (below_chain hb2 hb3) hb4⟩

set_option maxRecDepth 100000 in
set_option maxHeartbeats 1000000 in
theorem pattern_walk_D (s : Value) (a : Nat) (x : Int) (w : World) (h : NatAt w s a) (ht : Tab64 w) (hb : blen a ≤ 100000) (hx : -4000000000000 ≤ x) (hx2 : x ≤ 4000000000000) :
    Calls Tryz.prog 31 #[.int .i64 64, s, .int .i64 x] w fun e w' => e = .returned (.tuple #[.int .u64 ((hxPat fmD a x : Nat) : Int), .int .i64 0]) ∧ Below w.heap.size w w' := by
  have H := Lib.hid h
  have HT := Lib.hid ht
  have hsz : (toL a).length ≤ 8192 := by rw [toL_length]; omega
  obtain ⟨A, c, rfl, hc, hr⟩ := h
  have hbits := bits_walk A (toL a).length c (toL a) w rfl hr (Wd_toL a) hc (by omega)
  rw [vl_toL] at hbits
  have HBits := Lib.hid hbits
  have HL0 := Lib.hid (toL_length_zero a)
  clear hr ht hbits
  by_cases hz : a = 0
  · have hl : (((toL a).length : Int) == 0) = true := by rw [beq_iff_eq]; have := HL0.out.2 hz; omega
    have HF := Lib.hid (show hxPat fmD a x = 0 by unfold hxPat; rw [if_pos (.inl hz)])
    clear hz
    go_enter Tryz.func31, Tryz.ntmps31
    go_wp2_with (go_at_call 54; refine HBits.out.mono ?_; rintro e w1 ⟨rfl, rfl⟩)
    go_ret2
    exact ⟨by rw [HF.out]; rfl, Below.refl _ _⟩
  · have hl : (((toL a).length : Int) == 0) = false := by
      have h1 : (toL a).length ≠ 0 := fun e => hz (HL0.out.1 e)
      rw [beq_eq_false_iff_ne]; omega
    have HA := Lib.hid hz
    clear hz
    by_cases hlow : (blen a : Int) + x < -2000
    · have HF := Lib.hid (show hxPat fmD a x = 0 by unfold hxPat; rw [if_pos (.inr hlow)])
      go_enter Tryz.func31, Tryz.ntmps31
      go_wp2_with (go_at_call 54; refine HBits.out.mono ?_; rintro e w1 ⟨rfl, rfl⟩)
      go_ret2
      exact ⟨by rw [HF.out]; rfl, Below.refl _ _⟩
    · have d1 : decide ((blen a : Int) + x < -2000) = false := decide_eq_false hlow
      by_cases hhi : 2000 < (blen a : Int) + x
      · have d2 : decide (2000 < (blen a : Int) + x) = true := decide_eq_true hhi
        have HF := Lib.hid (show hxPat fmD a x = near fmD false 1 2000 by unfold hxPat; rw [if_neg (fun h => h.elim HA.out hlow), if_pos hhi])
        go_enter Tryz.func31, Tryz.ntmps31
        go_wp2_with (go_at_call 54; refine HBits.out.mono ?_; rintro e w1 ⟨rfl, rfl⟩)
        refine (word_walk 1 w (by rw [W64_num]; omega)).mono ?_
        rintro e w1 ⟨s1, rfl, hn1, hb1⟩
        have HN1 := Lib.hid hn1
        obtain ⟨A1, c1, rfl, hc1, hr1⟩ := hn1
        clear hc1 hr1
        go_wp2_with fail
        refine (make_walk false _ 1 2000 w1 HN1.out (HT.out.below hb1) (by decide) (by simp) (by omega) (by omega) (by rw [tz_one]; omega) (by rw [tz_one]; omega)).mono ?_
        rintro e w2 ⟨s2, rfl, hn2, hb2⟩
        rw [show dexp 1 2000 = 2000 by unfold dexp; rw [tz_one]; rfl]
        rw [tz_one, show 1 / 2 ^ 0 = 1 from rfl] at hn2
        have hw2 := below_chain hb1 hb2
        have HN2 := Lib.hid hn2
        obtain ⟨A2, c2, rfl, hc2, hr2⟩ := hn2
        clear hc2 hr2
        go_wp2_with fail
        have hb3 := below_alloc' w2 (.cells #[.bool false, .slice A2 (toL 1).length c2, .int .i64 2000] 106)
        refine (nearest_walk_D false _ 1 2000 _ (HN2.out.below hb3) (HT.out.below (below_chain hw2 hb3)) (by decide) (by simp) (by omega) (by omega) (fun _ => rfl) (by omega)).mono ?_
        rintro e w4 ⟨rfl, hb4⟩
        go_wp2
        go_ret2
        exact ⟨by rw [HF.out]; rfl, below_chain (below_chain hw2 hb3) hb4⟩
      · have d2 : decide (2000 < (blen a : Int) + x) = false := decide_eq_false hhi
        have HF := Lib.hid (show hxPat fmD a x = near fmD false (a / 2 ^ tz a) (x + tz a) by unfold hxPat; rw [if_neg (fun h => h.elim HA.out hlow), if_neg hhi])
        have htz := tz_le HA.out
        have hop := odd_part HA.out
        have HOP := Lib.hid hop
        clear hop
        go_enter Tryz.func31, Tryz.ntmps31
        go_wp2_with (go_at_call 54; refine HBits.out.mono ?_; rintro e w1 ⟨rfl, rfl⟩)
        refine (make_walk false _ a x w H.out HT.out (by omega) (by simp) (by omega) (by omega) (fun _ => by omega) (fun _ => by omega)).mono ?_
        rintro e w2 ⟨s2, rfl, hn2, hb2⟩
        rw [show dexp a x = x + tz a by unfold dexp; rw [if_neg HA.out]]
        have HN2 := Lib.hid hn2
        obtain ⟨A2, c2, rfl, hc2, hr2⟩ := hn2
        clear hc2 hr2
        go_wp2_with fail
        have hb3 := below_alloc' w2 (.cells #[.bool false, .slice A2 (toL (a / 2 ^ tz a)).length c2, .int .i64 (x + tz a)] 106)
        refine (nearest_walk_D false _ (a / 2 ^ tz a) (x + tz a) _ (HN2.out.below hb3) (HT.out.below (below_chain hb2 hb3)) (by have := HOP.out.2.1; omega) (by simp) (by omega) (by omega) (fun _ => HOP.out.1) (fun e => absurd e HOP.out.2.2)).mono ?_
        rintro e w4 ⟨rfl, hb4⟩
        go_wp2
        go_ret2
        exact ⟨by rw [HF.out]; rfl, below_chain (below_chain hb2 hb3) hb4⟩

end Go.Proofs.YtooehlneoboenaaGreatDoor
