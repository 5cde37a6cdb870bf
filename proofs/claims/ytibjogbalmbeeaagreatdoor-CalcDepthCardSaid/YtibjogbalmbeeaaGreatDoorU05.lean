/- Walks of round: of, signed, infinity. · Walks of round: size, for both formats (printed by gen_size.py). · The walk of (round.widths).size for Double (printed by gen_size.py). · Walks of round: Nearest, for both formats (printed by gen_near.py). -/
import Derived.Test.YtibjogbalmbeeaaGreatDoorU04
import Derived.Deep.RegionHeld3

namespace Go.Proofs.YtibjogbalmbeeaaGreatDoor
open Go.RowKit

/-- What a format is made of, for layer 8: the mantissa's bits, the least exponent, the sign's place. -/
structure Fm where
  P : Nat
  L : Int
  S : Nat
def fmS : Fm := ⟨24, -149, 31⟩
def fmD : Fm := ⟨53, -1074, 63⟩
def Fm.val (f : Fm) : Value := .agg #[.int .i64 f.P, .int .i64 f.L, .int .i64 f.S]
def Fm.inf (f : Fm) : Nat := 2 ^ f.S - 2 ^ (f.P - 1)
def Fm.ok (f : Fm) : Prop := f = fmS ∨ f = fmD

set_option maxRecDepth 100000 in
theorem rof_single (w : World) : Calls Tryz.prog 205 #[.int .i64 32] w fun e w' => e = .returned fmS.val ∧ Below w.heap.size w w' := by
  go_enter Tryz.func205, Tryz.ntmps205
  go_wp2
  refine bodyPost_ret (v := fmS.val) (by simp [results, Tryz.results205, go_sem, Fm.val, fmS]) rfl ⟨rfl, ?_⟩
  exact below_alloc' w _

set_option maxRecDepth 100000 in
theorem rof_double (w : World) : Calls Tryz.prog 205 #[.int .i64 64] w fun e w' => e = .returned fmD.val ∧ Below w.heap.size w w' := by
  go_enter Tryz.func205, Tryz.ntmps205
  go_wp2
  refine bodyPost_ret (v := fmD.val) (by simp [results, Tryz.results205, go_sem, Fm.val, fmD]) rfl ⟨rfl, ?_⟩
  exact below_alloc' w _

/-- The pattern of a size with that sign. -/
def sgn (f : Fm) (neg : Bool) (x : Nat) : Nat := if neg then 2 ^ f.S + x else x
theorem or_high (S x : Nat) (hS : S = 31 ∨ S = 63) (hx : x < 2 ^ S) : bits BinOp.or IntKind.u64 (x : Int) ((2 ^ S : Nat) : Int) = ((2 ^ S + x : Nat) : Int) := by
  have h1 : 2 ^ S < 18446744073709551616 := by rcases hS with h | h <;> subst h <;> decide
  rw [bits_or_u64_nat _ _ (by omega) h1, Nat.or_comm]
  have := Nat.two_pow_add_eq_or_of_lt hx 1
  rw [Nat.mul_one] at this
  rw [this]

set_option maxRecDepth 100000 in
theorem signed_walk (f : Fm) (hf : f.ok) (neg : Bool) (x : Nat) (hx : x < 2 ^ f.S) (w : World) :
    Calls Tryz.prog 208 #[f.val, .bool neg, .int .u64 (x : Int)] w fun e w' => e = .returned (.int .u64 ((sgn f neg x : Nat) : Int)) ∧ Below w.heap.size w w' := by
  have ho := or_high f.S x (by rcases hf with h | h <;> subst h <;> simp [fmS, fmD]) hx
  rcases hf with h | h <;> subst h
  · have ho2 : bits BinOp.or IntKind.u64 (x : Int) 2147483648 = ((2 ^ 31 + x : Nat) : Int) := ho
    have HO := Lib.hid ho2
    clear ho ho2 hx
    cases neg
    all_goals
      unfold Fm.val fmS
      go_enter Tryz.func208, Tryz.ntmps208
      go_wp2
      go_ret
      exact ⟨by first | rfl | exact ret_int (HO.out.trans (by rw [Int.natCast_add]; rfl)), below_alloc' w _⟩
  · have ho2 : bits BinOp.or IntKind.u64 (x : Int) 9223372036854775808 = ((2 ^ 63 + x : Nat) : Int) := ho
    have HO := Lib.hid ho2
    clear ho ho2 hx
    cases neg
    all_goals
      unfold Fm.val fmD
      go_enter Tryz.func208, Tryz.ntmps208
      go_wp2
      go_ret
      exact ⟨by first | rfl | exact ret_int (HO.out.trans (by rw [Int.natCast_add]; rfl)), below_alloc' w _⟩

set_option maxRecDepth 100000 in
theorem infinity_walk (f : Fm) (hf : f.ok) (w : World) :
    Calls Tryz.prog 227 #[f.val] w fun e w' => e = .returned (.int .u64 ((f.inf : Nat) : Int)) ∧ Below w.heap.size w w' := by
  rcases hf with h | h <;> subst h
  · unfold Fm.val fmS
    go_enter Tryz.func227, Tryz.ntmps227
    go_wp2
    go_quiet (fail)
    go_wp2
    go_ret
    exact ⟨rfl, below_dn (below_alloc' w _) _⟩
  · unfold Fm.val fmD
    go_enter Tryz.func227, Tryz.ntmps227
    go_wp2
    go_quiet (fail)
    go_wp2
    go_ret
    exact ⟨rfl, below_dn (below_alloc' w _) _⟩
end Go.Proofs.YtibjogbalmbeeaaGreatDoor

namespace Go.Proofs.YtibjogbalmbeeaaGreatDoor
open Go.RowKit

/-- The exponent of the last place. -/
def unitOf (f : Fm) (a : Nat) (x : Int) : Int := max (x + blen a - 1 - f.P + 1) f.L
/-- a * 2^x in units of the last place, rounded. -/
def unitsOf (f : Fm) (a : Nat) (x : Int) : Nat := if x ≤ unitOf f a x then rne a (unitOf f a x - x).toNat else a * 2 ^ (x - unitOf f a x).toNat
/-- The size of the pattern to which a * 2^x rounds; a is not nought. -/
def rsize (f : Fm) (a : Nat) (x : Int) : Nat :=
  if 1100 < x + blen a - 1 then f.inf else min ((unitOf f a x - f.L).toNat * 2 ^ (f.P - 1) + unitsOf f a x) f.inf
theorem rne_le {a n P : Nat} (h : blen a ≤ P + n) : rne a n ≤ 2 ^ P := by
  have h1 : a / 2 ^ n < 2 ^ P := by
    rw [Nat.div_lt_iff_lt_mul (Nat.two_pow_pos n), ← Nat.pow_add]; exact blen_le.1 h
  unfold rne
  split <;> omega
theorem unitsOf_le (f : Fm) (a : Nat) (x : Int) : unitsOf f a x ≤ 2 ^ f.P := by
  unfold unitsOf
  have hu : x + blen a - 1 - f.P + 1 ≤ unitOf f a x := by unfold unitOf; omega
  split
  · exact rne_le (by omega)
  · have h1 : blen a + (x - unitOf f a x).toNat ≤ f.P := by omega
    have h2 := Nat.mul_le_mul_right (2 ^ (x - unitOf f a x).toNat) (Nat.le_of_lt (blen_hi a))
    rw [← Nat.pow_add] at h2
    exact Nat.le_trans h2 (Nat.pow_le_pow_right (by omega) h1)
theorem size_end (H un u inf : Nat) (h : un * H + u < 18446744073709551616) :
    min (IntKind.u64.wrap (IntKind.u64.wrap ((un : Int) * (H : Int)) + (u : Int))) (inf : Int) = ((min (un * H + u) inf : Nat) : Int) := by
  rw [IntKind.wrap_u64, IntKind.wrap_u64, ← Int.natCast_mul]
  generalize un * H = z at *
  omega
theorem size_end0 (H un inf : Nat) (h : un * H < 18446744073709551616) :
    min (IntKind.u64.wrap (IntKind.u64.wrap ((un : Int) * (H : Int)))) (inf : Int) = ((min (un * H + 0) inf : Nat) : Int) := by
  rw [IntKind.wrap_u64, IntKind.wrap_u64, ← Int.natCast_mul]
  generalize un * H = z at *
  omega
theorem toL_small {u : Nat} (h : u < W64) (h0 : u ≠ 0) : toL u = [u] := by rw [toL_pos h0, Nat.mod_eq_of_lt h, Nat.div_eq_of_lt h, toL_zero]

set_option maxRecDepth 100000 in
set_option maxHeartbeats 1000000 in
theorem size_walk_S (s : Value) (a : Nat) (x : Int) (w : World) (h : NatAt w s a) (ht : Tab64 w) (ha : a ≠ 0) (hb : blen a ≤ 500000) (hx1 : -2000000 ≤ x) (hx2 : x ≤ 2000000) :
    Calls Tryz.prog 209 #[fmS.val, s, .int .i64 x] w fun e w' => e = .returned (.int .u64 ((rsize fmS a x : Nat) : Int)) ∧ Below w.heap.size w w' := by
  have H := Lib.hid h
  have HT := Lib.hid ht
  have hsz : (toL a).length ≤ 8192 := by rw [toL_length]; omega
  have hb1 := blen_pos ha
  obtain ⟨A, c, rfl, hc, hr⟩ := h
  have hbits := fun (w1 : World) (hw : Below w.heap.size w w1) => bits_walk A (toL a).length c (toL a) w1 rfl (hr.below hw) (Wd_toL a) hc (by omega)
  rw [vl_toL] at hbits
  have HBits := Lib.hid hbits
  clear hr ht hbits
  rw [show fmS.val = .agg #[.int .i64 24, .int .i64 (-149), .int .i64 31] from rfl]
  by_cases hbig : 1100 < x + blen a - 1
  · have HF := Lib.hid (show rsize fmS a x = fmS.inf by unfold rsize; rw [if_pos hbig])
    go_enter Tryz.func209, Tryz.ntmps209
    go_wp2_with (go_at_call 75; refine (HBits.out _ (below_alloc' w _)).mono ?_; rintro e w1 ⟨rfl, rfl⟩)
    refine (infinity_walk fmS (.inl rfl) _).mono ?_
    rintro e w1 ⟨rfl, hb1⟩
    go_wp2_with fail
    go_ret
    exact ⟨by rw [HF.out]; rfl, below_chain (below_alloc' w _) hb1⟩
  · have hge : (-149) ≤ unitOf fmS a x := by unfold unitOf fmS; simp only; omega
    obtain ⟨un, hun⟩ : ∃ un : Nat, unitOf fmS a x = (-149) + (un : Int) := ⟨(unitOf fmS a x - (-149)).toNat, by omega⟩
    clear hge
    have hunb : un ≤ 2200 := by unfold unitOf fmS at hun; simp only at hun; omega
    have hmx : max (x + (blen a : Int) - 1 - 24 + 1) (-149) = (-149) + (un : Int) := by rw [← hun]; rfl
    have hlow : x + (blen a : Int) - 1 - 24 + 1 ≤ (-149) + (un : Int) := by omega
    have hul := unitsOf_le fmS a x
    have HF := Lib.hid (show rsize fmS a x = min (un * 8388608 + unitsOf fmS a x) fmS.inf by
      unfold rsize; rw [if_neg hbig, hun]
      have e1 : ((-149) + (un : Int) - fmS.L).toNat = un := by unfold fmS; simp only; omega
      rw [e1]; rfl)
    have HUN := Lib.hid hun
    have HUL := Lib.hid hul
    clear hun hul
    have hW0 : Below w.heap.size w ((w.alloc (.cells #[.int .i64 24, .int .i64 (-149), .int .i64 31] 256)).alloc (.cells #[.bool false, .slice A (toL a).length c] 84)) := below_chain (below_alloc' w _) (below_alloc' _ _)
    have hX : Box3 ((w.alloc (.cells #[.int .i64 24, .int .i64 (-149), .int .i64 31] 256)).alloc (.cells #[.bool false, .slice A (toL a).length c] 84)) w.heap.size (.int .i64 24) (.int .i64 (-149)) (.int .i64 31) := ⟨by simp, by simp, by simp, by simp, by simp, by simp, by simp; omega⟩
    have hM : Box2 ((w.alloc (.cells #[.int .i64 24, .int .i64 (-149), .int .i64 31] 256)).alloc (.cells #[.bool false, .slice A (toL a).length c] 84)) (w.heap.size + 1) (.bool false) (.slice A (toL a).length c) := ⟨by simp, by simp, by simp, by simp, by simp⟩
    have HW0 := Lib.hid hW0
    have HX := Lib.hid hX
    have HM := Lib.hid hM
    clear hW0 hX hM
    by_cases hcs : x ≤ (-149) + (un : Int)
    · have hU := Lib.hid (show unitsOf fmS a x = rne a ((-149) + (un : Int) - x).toNat by unfold unitsOf; rw [HUN.out, if_pos hcs])
      go_enter Tryz.func209, Tryz.ntmps209
      go_wp2_with (go_at_call 75; refine (HBits.out _ (below_alloc' w _)).mono ?_; rintro e w1 ⟨rfl, rfl⟩)
      have hW0 := HW0.out
      have hX := HX.out
      have hM := HM.out
      clear HW0 HX HM
      generalize (w.alloc (.cells #[.int .i64 24, .int .i64 (-149), .int .i64 31] 256)).alloc (.cells #[.bool false, .slice A (toL a).length c] 84) = W0 at *
      refine (nearshr_walk _ a ((-149) + (un : Int) - x) W0 (H.out.below hW0) (HT.out.below hW0) (by omega) (by omega) (by omega)).mono ?_
      rintro e w1 ⟨s1, rfl, hn1, hb1⟩
      rw [← hU.out] at hn1
      clear hU
      have hw1 := below_chain hW0 hb1
      have hX1 := hX.below hb1
      have hM1 := hM.below hb1
      clear hX hM
      generalize unitsOf fmS a x = u at *
      have HBD := Lib.hid (show un * 8388608 + u < 18446744073709551616 ∧ un * 8388608 < 18446744073709551616 by have h9 := HUL.out; rw [show (2 : Nat) ^ fmS.P = 16777216 from rfl] at h9; omega)
      obtain ⟨m0, m1, m2, m3, m4⟩ := hM1
      have HN1 := Lib.hid hn1
      have HX1 := Lib.hid hX1
      obtain ⟨A1, c1, rfl, hc1, hr1⟩ := hn1
      clear hc1 hr1 hX1
      have huW : u < W64 := by have := HUL.out; rw [W64_num]; have e : 2 ^ fmS.P ≤ 2 ^ 53 := by decide
                               omega
      have q1 : ∀ y, (w1.setCell ⟨w.heap.size + 1, 0, none⟩ y).cell? ⟨w.heap.size + 1, 1, none⟩ = some (.slice A (toL a).length c) := fun y => by rw [cell_other (by simp)]; exact m1
      have hN2 := (HN1.out.write m0 (by simp) (.bool false)).write (q1 _) (by simp) (.slice A1 (toL u).length c1)
      have hw2 := (hw1.setCell (p := ⟨w.heap.size + 1, 0, none⟩) (by simp) (.bool false)).setCell (p := ⟨w.heap.size + 1, 1, none⟩) (by simp) (.slice A1 (toL u).length c1)
      have HN2 := Lib.hid hN2
      have HW2 := Lib.hid hw2
      clear q1 hN2 hw2
      have hW12 : Below (w.heap.size + 1) w1 ((w1.setCell ⟨w.heap.size + 1, 0, none⟩ (.bool false)).setCell ⟨w.heap.size + 1, 1, none⟩ (.slice A1 (toL u).length c1)) := ((Below.refl _ _).setCell (by simp) _).setCell (by simp) _
      have HX2 := HX1.out.low hW12 (by simp)
      have HXX := Lib.hid HX2
      clear hW12 HX2
      by_cases hu0 : u = 0
      · have hl0 : (toL u).length = 0 := by rw [hu0, toL_zero]; rfl
        have HU0 := Lib.hid hu0
        have hl1 : ¬ (0 : Int) < ((toL u).length : Int) := by omega
        have hl2 : decide ((0 : Int) < ((toL u).length : Int)) = false := decide_eq_false hl1
        clear hu0 hl0
        go_wp2_with fail
        have q1 : IntKind.i64.wrap ((-149) + (un : Int) + 149) = (un : Int) := by rw [IntWalk.i64_in _ (by omega)]; omega
        have q3 : IntKind.i64.wrap 23 = 23 := by decide
        have q2 : IntKind.u64.wrap (un : Int) = (un : Int) := by rw [IntKind.wrap_u64]; omega
        obtain ⟨x0, x1, x2, x3, x4, x5, x6⟩ := HXX.out
        have HWd := Lib.hid HW2.out.drew
        go_region_held3 (fun w' => w'.cell? ⟨w.heap.size, 0, none⟩ = some (.int .i64 24) ∧ w'.cell? ⟨w.heap.size, 1, none⟩ = some (.int .i64 (-149)) ∧ w'.cell? ⟨w.heap.size, 2, none⟩ = some (.int .i64 31) ∧ Hid (Below w.heap.size w w'))
          (first | exact ⟨x0, x1, x2, HWd⟩ | exact ⟨cell_kept hb5 (by assumption), cell_kept hb5 (by assumption), cell_kept hb5 (by assumption), Lib.hid (below_chain (Hid.out (by assumption)) hb5)⟩)
          (first | (go_at_call 227; refine (infinity_walk fmS (.inl rfl) _).mono ?_; rintro e w5 ⟨rfl, hb5⟩))
        go_wp2
        go_ret
        exact ⟨ret_int (by rw [HF.out, HU0.out]; exact size_end0 8388608 un _ HBD.out.2), below_chain HWd.out hb5⟩
      · have hl0 : (toL u).length = 1 := by rw [toL_small huW hu0]; rfl
        have hl1 : (0 : Int) < ((toL u).length : Int) := by omega
        obtain ⟨ad, e2, hck⟩ : ∃ ad, A1 = some ad ∧ ((w1.setCell ⟨w.heap.size + 1, 0, none⟩ (.bool false)).setCell ⟨w.heap.size + 1, 1, none⟩ (.slice A1 (toL u).length c1)).cell? ad = some (.int .u64 (u : Int)) := by
          obtain ⟨A2, c2, e2, hc2, hr2⟩ := HN2.out
          cases e2
          obtain ⟨ad, e3, hc3⟩ := hr2 (by omega)
          have h0 := hc3 0 (by omega)
          have e4 : el (toL u) 0 = u := by rw [toL_small huW hu0]; simp [el]
          rw [e4] at h0
          exact ⟨ad, e3, by simpa [Addr.add] using h0⟩
        subst e2
        clear hl0 hu0
        go_wp2_with fail
        have q1 : IntKind.i64.wrap ((-149) + (un : Int) + 149) = (un : Int) := by rw [IntWalk.i64_in _ (by omega)]; omega
        have q3 : IntKind.i64.wrap 23 = 23 := by decide
        have q2 : IntKind.u64.wrap (un : Int) = (un : Int) := by rw [IntKind.wrap_u64]; omega
        obtain ⟨x0, x1, x2, x3, x4, x5, x6⟩ := HXX.out
        have HWd := Lib.hid HW2.out.drew
        go_region_held3 (fun w' => w'.cell? ⟨w.heap.size, 0, none⟩ = some (.int .i64 24) ∧ w'.cell? ⟨w.heap.size, 1, none⟩ = some (.int .i64 (-149)) ∧ w'.cell? ⟨w.heap.size, 2, none⟩ = some (.int .i64 31) ∧ Hid (Below w.heap.size w w'))
          (first | exact ⟨x0, x1, x2, HWd⟩ | exact ⟨cell_kept hb5 (by assumption), cell_kept hb5 (by assumption), cell_kept hb5 (by assumption), Lib.hid (below_chain (Hid.out (by assumption)) hb5)⟩)
          (first | (go_at_call 227; refine (infinity_walk fmS (.inl rfl) _).mono ?_; rintro e w5 ⟨rfl, hb5⟩))
        go_wp2
        go_ret
        exact ⟨ret_int (by rw [HF.out]; exact size_end 8388608 un _ _ HBD.out.1), below_chain HWd.out hb5⟩
    · have hU := Lib.hid (show unitsOf fmS a x = a * 2 ^ (x - ((-149) + (un : Int))).toNat by unfold unitsOf; rw [HUN.out, if_neg hcs])
      go_enter Tryz.func209, Tryz.ntmps209
      go_wp2_with (go_at_call 75; refine (HBits.out _ (below_alloc' w _)).mono ?_; rintro e w1 ⟨rfl, rfl⟩)
      have hW0 := HW0.out
      have hX := HX.out
      have hM := HM.out
      clear HW0 HX HM
      generalize (w.alloc (.cells #[.int .i64 24, .int .i64 (-149), .int .i64 31] 256)).alloc (.cells #[.bool false, .slice A (toL a).length c] 84) = W0 at *
      refine (nshl_walk _ a (x - ((-149) + (un : Int))) W0 (H.out.below hW0) (by omega) (by omega)).mono ?_
      rintro e w1 ⟨s1, rfl, hn1, hb1⟩
      rw [← hU.out] at hn1
      clear hU
      have hw1 := below_chain hW0 hb1
      have hX1 := hX.below hb1
      have hM1 := hM.below hb1
      clear hX hM
      generalize unitsOf fmS a x = u at *
      have HBD := Lib.hid (show un * 8388608 + u < 18446744073709551616 ∧ un * 8388608 < 18446744073709551616 by have h9 := HUL.out; rw [show (2 : Nat) ^ fmS.P = 16777216 from rfl] at h9; omega)
      obtain ⟨m0, m1, m2, m3, m4⟩ := hM1
      have HN1 := Lib.hid hn1
      have HX1 := Lib.hid hX1
      obtain ⟨A1, c1, rfl, hc1, hr1⟩ := hn1
      clear hc1 hr1 hX1
      have huW : u < W64 := by have := HUL.out; rw [W64_num]; have e : 2 ^ fmS.P ≤ 2 ^ 53 := by decide
                               omega
      have q1 : ∀ y, (w1.setCell ⟨w.heap.size + 1, 0, none⟩ y).cell? ⟨w.heap.size + 1, 1, none⟩ = some (.slice A (toL a).length c) := fun y => by rw [cell_other (by simp)]; exact m1
      have hN2 := (HN1.out.write m0 (by simp) (.bool false)).write (q1 _) (by simp) (.slice A1 (toL u).length c1)
      have hw2 := (hw1.setCell (p := ⟨w.heap.size + 1, 0, none⟩) (by simp) (.bool false)).setCell (p := ⟨w.heap.size + 1, 1, none⟩) (by simp) (.slice A1 (toL u).length c1)
      have HN2 := Lib.hid hN2
      have HW2 := Lib.hid hw2
      clear q1 hN2 hw2
      have hW12 : Below (w.heap.size + 1) w1 ((w1.setCell ⟨w.heap.size + 1, 0, none⟩ (.bool false)).setCell ⟨w.heap.size + 1, 1, none⟩ (.slice A1 (toL u).length c1)) := ((Below.refl _ _).setCell (by simp) _).setCell (by simp) _
      have HX2 := HX1.out.low hW12 (by simp)
      have HXX := Lib.hid HX2
      clear hW12 HX2
      by_cases hu0 : u = 0
      · have hl0 : (toL u).length = 0 := by rw [hu0, toL_zero]; rfl
        have HU0 := Lib.hid hu0
        have hl1 : ¬ (0 : Int) < ((toL u).length : Int) := by omega
        have hl2 : decide ((0 : Int) < ((toL u).length : Int)) = false := decide_eq_false hl1
        clear hu0 hl0
        go_wp2_with fail
        have q1 : IntKind.i64.wrap ((-149) + (un : Int) + 149) = (un : Int) := by rw [IntWalk.i64_in _ (by omega)]; omega
        have q3 : IntKind.i64.wrap 23 = 23 := by decide
        have q2 : IntKind.u64.wrap (un : Int) = (un : Int) := by rw [IntKind.wrap_u64]; omega
        obtain ⟨x0, x1, x2, x3, x4, x5, x6⟩ := HXX.out
        have HWd := Lib.hid HW2.out.drew
        go_region_held3 (fun w' => w'.cell? ⟨w.heap.size, 0, none⟩ = some (.int .i64 24) ∧ w'.cell? ⟨w.heap.size, 1, none⟩ = some (.int .i64 (-149)) ∧ w'.cell? ⟨w.heap.size, 2, none⟩ = some (.int .i64 31) ∧ Hid (Below w.heap.size w w'))
          (first | exact ⟨x0, x1, x2, HWd⟩ | exact ⟨cell_kept hb5 (by assumption), cell_kept hb5 (by assumption), cell_kept hb5 (by assumption), Lib.hid (below_chain (Hid.out (by assumption)) hb5)⟩)
          (first | (go_at_call 227; refine (infinity_walk fmS (.inl rfl) _).mono ?_; rintro e w5 ⟨rfl, hb5⟩))
        go_wp2
        go_ret
        exact ⟨ret_int (by rw [HF.out, HU0.out]; exact size_end0 8388608 un _ HBD.out.2), below_chain HWd.out hb5⟩
      · have hl0 : (toL u).length = 1 := by rw [toL_small huW hu0]; rfl
        have hl1 : (0 : Int) < ((toL u).length : Int) := by omega
        obtain ⟨ad, e2, hck⟩ : ∃ ad, A1 = some ad ∧ ((w1.setCell ⟨w.heap.size + 1, 0, none⟩ (.bool false)).setCell ⟨w.heap.size + 1, 1, none⟩ (.slice A1 (toL u).length c1)).cell? ad = some (.int .u64 (u : Int)) := by
          obtain ⟨A2, c2, e2, hc2, hr2⟩ := HN2.out
          cases e2
          obtain ⟨ad, e3, hc3⟩ := hr2 (by omega)
          have h0 := hc3 0 (by omega)
          have e4 : el (toL u) 0 = u := by rw [toL_small huW hu0]; simp [el]
          rw [e4] at h0
          exact ⟨ad, e3, by simpa [Addr.add] using h0⟩
        subst e2
        clear hl0 hu0
        go_wp2_with fail
        have q1 : IntKind.i64.wrap ((-149) + (un : Int) + 149) = (un : Int) := by rw [IntWalk.i64_in _ (by omega)]; omega
        have q3 : IntKind.i64.wrap 23 = 23 := by decide
        have q2 : IntKind.u64.wrap (un : Int) = (un : Int) := by rw [IntKind.wrap_u64]; omega
        obtain ⟨x0, x1, x2, x3, x4, x5, x6⟩ := HXX.out
        have HWd := Lib.hid HW2.out.drew
        go_region_held3 (fun w' => w'.cell? ⟨w.heap.size, 0, none⟩ = some (.int .i64 24) ∧ w'.cell? ⟨w.heap.size, 1, none⟩ = some (.int .i64 (-149)) ∧ w'.cell? ⟨w.heap.size, 2, none⟩ = some (.int .i64 31) ∧ Hid (Below w.heap.size w w'))
          (first | exact ⟨x0, x1, x2, HWd⟩ | exact ⟨cell_kept hb5 (by assumption), cell_kept hb5 (by assumption), cell_kept hb5 (by assumption), Lib.hid (below_chain (Hid.out (by assumption)) hb5)⟩)
          (first | (go_at_call 227; refine (infinity_walk fmS (.inl rfl) _).mono ?_; rintro e w5 ⟨rfl, hb5⟩))
        go_wp2
        go_ret
        exact ⟨ret_int (by rw [HF.out]; exact size_end 8388608 un _ _ HBD.out.1), below_chain HWd.out hb5⟩

end Go.Proofs.YtibjogbalmbeeaaGreatDoor

namespace Go.Proofs.YtibjogbalmbeeaaGreatDoor
open Go.RowKit

set_option maxRecDepth 100000 in
set_option maxHeartbeats 1000000 in
theorem size_walk_D (s : Value) (a : Nat) (x : Int) (w : World) (h : NatAt w s a) (ht : Tab64 w) (ha : a ≠ 0) (hb : blen a ≤ 500000) (hx1 : -2000000 ≤ x) (hx2 : x ≤ 2000000) :
    Calls Tryz.prog 209 #[fmD.val, s, .int .i64 x] w fun e w' => e = .returned (.int .u64 ((rsize fmD a x : Nat) : Int)) ∧ Below w.heap.size w w' := by
  have H := Lib.hid h
  have HT := Lib.hid ht
  have hsz : (toL a).length ≤ 8192 := by rw [toL_length]; omega
  have hb1 := blen_pos ha
  obtain ⟨A, c, rfl, hc, hr⟩ := h
  have hbits := fun (w1 : World) (hw : Below w.heap.size w w1) => bits_walk A (toL a).length c (toL a) w1 rfl (hr.below hw) (Wd_toL a) hc (by omega)
  rw [vl_toL] at hbits
  have HBits := Lib.hid hbits
  clear hr ht hbits
  rw [show fmD.val = .agg #[.int .i64 53, .int .i64 (-1074), .int .i64 63] from rfl]
  by_cases hbig : 1100 < x + blen a - 1
  · have HF := Lib.hid (show rsize fmD a x = fmD.inf by unfold rsize; rw [if_pos hbig])
    go_enter Tryz.func209, Tryz.ntmps209
    go_wp2_with (go_at_call 75; refine (HBits.out _ (below_alloc' w _)).mono ?_; rintro e w1 ⟨rfl, rfl⟩)
    refine (infinity_walk fmD (.inr rfl) _).mono ?_
    rintro e w1 ⟨rfl, hb1⟩
    go_wp2_with fail
    go_ret
    exact ⟨by rw [HF.out]; rfl, below_chain (below_alloc' w _) hb1⟩
  · have hge : (-1074) ≤ unitOf fmD a x := by unfold unitOf fmD; simp only; omega
    obtain ⟨un, hun⟩ : ∃ un : Nat, unitOf fmD a x = (-1074) + (un : Int) := ⟨(unitOf fmD a x - (-1074)).toNat, by omega⟩
    clear hge
    have hunb : un ≤ 2200 := by unfold unitOf fmD at hun; simp only at hun; omega
    have hmx : max (x + (blen a : Int) - 1 - 53 + 1) (-1074) = (-1074) + (un : Int) := by rw [← hun]; rfl
    have hlow : x + (blen a : Int) - 1 - 53 + 1 ≤ (-1074) + (un : Int) := by omega
    have hul := unitsOf_le fmD a x
    have HF := Lib.hid (show rsize fmD a x = min (un * 4503599627370496 + unitsOf fmD a x) fmD.inf by
      unfold rsize; rw [if_neg hbig, hun]
      have e1 : ((-1074) + (un : Int) - fmD.L).toNat = un := by unfold fmD; simp only; omega
      rw [e1]; rfl)
    have HUN := Lib.hid hun
    have HUL := Lib.hid hul
    clear hun hul
    have hW0 : Below w.heap.size w ((w.alloc (.cells #[.int .i64 53, .int .i64 (-1074), .int .i64 63] 256)).alloc (.cells #[.bool false, .slice A (toL a).length c] 84)) := below_chain (below_alloc' w _) (below_alloc' _ _)
    have hX : Box3 ((w.alloc (.cells #[.int .i64 53, .int .i64 (-1074), .int .i64 63] 256)).alloc (.cells #[.bool false, .slice A (toL a).length c] 84)) w.heap.size (.int .i64 53) (.int .i64 (-1074)) (.int .i64 63) := ⟨by simp, by simp, by simp, by simp, by simp, by simp, by simp; omega⟩
    have hM : Box2 ((w.alloc (.cells #[.int .i64 53, .int .i64 (-1074), .int .i64 63] 256)).alloc (.cells #[.bool false, .slice A (toL a).length c] 84)) (w.heap.size + 1) (.bool false) (.slice A (toL a).length c) := ⟨by simp, by simp, by simp, by simp, by simp⟩
    have HW0 := Lib.hid hW0
    have HX := Lib.hid hX
    have HM := Lib.hid hM
    clear hW0 hX hM
    by_cases hcs : x ≤ (-1074) + (un : Int)
    · have hU := Lib.hid (show unitsOf fmD a x = rne a ((-1074) + (un : Int) - x).toNat by unfold unitsOf; rw [HUN.out, if_pos hcs])
      go_enter Tryz.func209, Tryz.ntmps209
      go_wp2_with (go_at_call 75; refine (HBits.out _ (below_alloc' w _)).mono ?_; rintro e w1 ⟨rfl, rfl⟩)
      have hW0 := HW0.out
      have hX := HX.out
      have hM := HM.out
      clear HW0 HX HM
      generalize (w.alloc (.cells #[.int .i64 53, .int .i64 (-1074), .int .i64 63] 256)).alloc (.cells #[.bool false, .slice A (toL a).length c] 84) = W0 at *
      refine (nearshr_walk _ a ((-1074) + (un : Int) - x) W0 (H.out.below hW0) (HT.out.below hW0) (by omega) (by omega) (by omega)).mono ?_
      rintro e w1 ⟨s1, rfl, hn1, hb1⟩
      rw [← hU.out] at hn1
      clear hU
      have hw1 := below_chain hW0 hb1
      have hX1 := hX.below hb1
      have hM1 := hM.below hb1
      clear hX hM
      generalize unitsOf fmD a x = u at *
      have HBD := Lib.hid (show un * 4503599627370496 + u < 18446744073709551616 ∧ un * 4503599627370496 < 18446744073709551616 by have h9 := HUL.out; rw [show (2 : Nat) ^ fmD.P = 9007199254740992 from rfl] at h9; omega)
      obtain ⟨m0, m1, m2, m3, m4⟩ := hM1
      have HN1 := Lib.hid hn1
      have HX1 := Lib.hid hX1
      obtain ⟨A1, c1, rfl, hc1, hr1⟩ := hn1
      clear hc1 hr1 hX1
      have huW : u < W64 := by have := HUL.out; rw [W64_num]; have e : 2 ^ fmD.P ≤ 2 ^ 53 := by decide
                               omega
      have q1 : ∀ y, (w1.setCell ⟨w.heap.size + 1, 0, none⟩ y).cell? ⟨w.heap.size + 1, 1, none⟩ = some (.slice A (toL a).length c) := fun y => by rw [cell_other (by simp)]; exact m1
      have hN2 := (HN1.out.write m0 (by simp) (.bool false)).write (q1 _) (by simp) (.slice A1 (toL u).length c1)
      have hw2 := (hw1.setCell (p := ⟨w.heap.size + 1, 0, none⟩) (by simp) (.bool false)).setCell (p := ⟨w.heap.size + 1, 1, none⟩) (by simp) (.slice A1 (toL u).length c1)
      have HN2 := Lib.hid hN2
      have HW2 := Lib.hid hw2
      clear q1 hN2 hw2
      have hW12 : Below (w.heap.size + 1) w1 ((w1.setCell ⟨w.heap.size + 1, 0, none⟩ (.bool false)).setCell ⟨w.heap.size + 1, 1, none⟩ (.slice A1 (toL u).length c1)) := ((Below.refl _ _).setCell (by simp) _).setCell (by simp) _
      have HX2 := HX1.out.low hW12 (by simp)
      have HXX := Lib.hid HX2
      clear hW12 HX2
      by_cases hu0 : u = 0
      · have hl0 : (toL u).length = 0 := by rw [hu0, toL_zero]; rfl
        have HU0 := Lib.hid hu0
        have hl1 : ¬ (0 : Int) < ((toL u).length : Int) := by omega
        have hl2 : decide ((0 : Int) < ((toL u).length : Int)) = false := decide_eq_false hl1
        clear hu0 hl0
        go_wp2_with fail
        have q1 : IntKind.i64.wrap ((-1074) + (un : Int) + 1074) = (un : Int) := by rw [IntWalk.i64_in _ (by omega)]; omega
        have q3 : IntKind.i64.wrap 52 = 52 := by decide
        have q2 : IntKind.u64.wrap (un : Int) = (un : Int) := by rw [IntKind.wrap_u64]; omega
        obtain ⟨x0, x1, x2, x3, x4, x5, x6⟩ := HXX.out
        have HWd := Lib.hid HW2.out.drew
        go_region_held3 (fun w' => w'.cell? ⟨w.heap.size, 0, none⟩ = some (.int .i64 53) ∧ w'.cell? ⟨w.heap.size, 1, none⟩ = some (.int .i64 (-1074)) ∧ w'.cell? ⟨w.heap.size, 2, none⟩ = some (.int .i64 63) ∧ Hid (Below w.heap.size w w'))
          (first | exact ⟨x0, x1, x2, HWd⟩ | exact ⟨cell_kept hb5 (by assumption), cell_kept hb5 (by assumption), cell_kept hb5 (by assumption), Lib.hid (below_chain (Hid.out (by assumption)) hb5)⟩)
          (first | (go_at_call 227; refine (infinity_walk fmD (.inr rfl) _).mono ?_; rintro e w5 ⟨rfl, hb5⟩))
        go_wp2
        go_ret
        exact ⟨ret_int (by rw [HF.out, HU0.out]; exact size_end0 4503599627370496 un _ HBD.out.2), below_chain HWd.out hb5⟩
      · have hl0 : (toL u).length = 1 := by rw [toL_small huW hu0]; rfl
        have hl1 : (0 : Int) < ((toL u).length : Int) := by omega
        obtain ⟨ad, e2, hck⟩ : ∃ ad, A1 = some ad ∧ ((w1.setCell ⟨w.heap.size + 1, 0, none⟩ (.bool false)).setCell ⟨w.heap.size + 1, 1, none⟩ (.slice A1 (toL u).length c1)).cell? ad = some (.int .u64 (u : Int)) := by
          obtain ⟨A2, c2, e2, hc2, hr2⟩ := HN2.out
          cases e2
          obtain ⟨ad, e3, hc3⟩ := hr2 (by omega)
          have h0 := hc3 0 (by omega)
          have e4 : el (toL u) 0 = u := by rw [toL_small huW hu0]; simp [el]
          rw [e4] at h0
          exact ⟨ad, e3, by simpa [Addr.add] using h0⟩
        subst e2
        clear hl0 hu0
        go_wp2_with fail
        have q1 : IntKind.i64.wrap ((-1074) + (un : Int) + 1074) = (un : Int) := by rw [IntWalk.i64_in _ (by omega)]; omega
        have q3 : IntKind.i64.wrap 52 = 52 := by decide
        have q2 : IntKind.u64.wrap (un : Int) = (un : Int) := by rw [IntKind.wrap_u64]; omega
        obtain ⟨x0, x1, x2, x3, x4, x5, x6⟩ := HXX.out
        have HWd := Lib.hid HW2.out.drew
        go_region_held3 (fun w' => w'.cell? ⟨w.heap.size, 0, none⟩ = some (.int .i64 53) ∧ w'.cell? ⟨w.heap.size, 1, none⟩ = some (.int .i64 (-1074)) ∧ w'.cell? ⟨w.heap.size, 2, none⟩ = some (.int .i64 63) ∧ Hid (Below w.heap.size w w'))
          (first | exact ⟨x0, x1, x2, HWd⟩ | exact ⟨cell_kept hb5 (by assumption), cell_kept hb5 (by assumption), cell_kept hb5 (by assumption), Lib.hid (below_chain (Hid.out (by assumption)) hb5)⟩)
          (first | (go_at_call 227; refine (infinity_walk fmD (.inr rfl) _).mono ?_; rintro e w5 ⟨rfl, hb5⟩))
        go_wp2
        go_ret
        exact ⟨ret_int (by rw [HF.out]; exact size_end 4503599627370496 un _ _ HBD.out.1), below_chain HWd.out hb5⟩
    · have hU := Lib.hid (show unitsOf fmD a x = a * 2 ^ (x - ((-1074) + (un : Int))).toNat by unfold unitsOf; rw [HUN.out, if_neg hcs])
      go_enter Tryz.func209, Tryz.ntmps209
      go_wp2_with (go_at_call 75; refine (HBits.out _ (below_alloc' w _)).mono ?_; rintro e w1 ⟨rfl, rfl⟩)
      have hW0 := HW0.out
      have hX := HX.out
      have hM := HM.out
      clear HW0 HX HM
      generalize (w.alloc (.cells #[.int .i64 53, .int .i64 (-1074), .int .i64 63] 256)).alloc (.cells #[.bool false, .slice A (toL a).length c] 84) = W0 at *
      refine (nshl_walk _ a (x - ((-1074) + (un : Int))) W0 (H.out.below hW0) (by omega) (by omega)).mono ?_
      rintro e w1 ⟨s1, rfl, hn1, hb1⟩
      rw [← hU.out] at hn1
      clear hU
      have hw1 := below_chain hW0 hb1
      have hX1 := hX.below hb1
      have hM1 := hM.below hb1
      clear hX hM
      generalize unitsOf fmD a x = u at *
      have HBD := Lib.hid (show un * 4503599627370496 + u < 18446744073709551616 ∧ un * 4503599627370496 < 18446744073709551616 by have h9 := HUL.out; rw [show (2 : Nat) ^ fmD.P = 9007199254740992 from rfl] at h9; omega)
      obtain ⟨m0, m1, m2, m3, m4⟩ := hM1
      have HN1 := Lib.hid hn1
      have HX1 := Lib.hid hX1
      obtain ⟨A1, c1, rfl, hc1, hr1⟩ := hn1
      clear hc1 hr1 hX1
      have huW : u < W64 := by have := HUL.out; rw [W64_num]; have e : 2 ^ fmD.P ≤ 2 ^ 53 := by decide
                               omega
      have q1 : ∀ y, (w1.setCell ⟨w.heap.size + 1, 0, none⟩ y).cell? ⟨w.heap.size + 1, 1, none⟩ = some (.slice A (toL a).length c) := fun y => by rw [cell_other (by simp)]; exact m1
      have hN2 := (HN1.out.write m0 (by simp) (.bool false)).write (q1 _) (by simp) (.slice A1 (toL u).length c1)
      have hw2 := (hw1.setCell (p := ⟨w.heap.size + 1, 0, none⟩) (by simp) (.bool false)).setCell (p := ⟨w.heap.size + 1, 1, none⟩) (by simp) (.slice A1 (toL u).length c1)
      have HN2 := Lib.hid hN2
      have HW2 := Lib.hid hw2
      clear q1 hN2 hw2
      have hW12 : Below (w.heap.size + 1) w1 ((w1.setCell ⟨w.heap.size + 1, 0, none⟩ (.bool false)).setCell ⟨w.heap.size + 1, 1, none⟩ (.slice A1 (toL u).length c1)) := ((Below.refl _ _).setCell (by simp) _).setCell (by simp) _
      have HX2 := HX1.out.low hW12 (by simp)
      have HXX := Lib.hid HX2
      clear hW12 HX2
      by_cases hu0 : u = 0
      · have hl0 : (toL u).length = 0 := by rw [hu0, toL_zero]; rfl
        have HU0 := Lib.hid hu0
        have hl1 : ¬ (0 : Int) < ((toL u).length : Int) := by omega
        have hl2 : decide ((0 : Int) < ((toL u).length : Int)) = false := decide_eq_false hl1
        clear hu0 hl0
        go_wp2_with fail
        have q1 : IntKind.i64.wrap ((-1074) + (un : Int) + 1074) = (un : Int) := by rw [IntWalk.i64_in _ (by omega)]; omega
        have q3 : IntKind.i64.wrap 52 = 52 := by decide
        have q2 : IntKind.u64.wrap (un : Int) = (un : Int) := by rw [IntKind.wrap_u64]; omega
        obtain ⟨x0, x1, x2, x3, x4, x5, x6⟩ := HXX.out
        have HWd := Lib.hid HW2.out.drew
        go_region_held3 (fun w' => w'.cell? ⟨w.heap.size, 0, none⟩ = some (.int .i64 53) ∧ w'.cell? ⟨w.heap.size, 1, none⟩ = some (.int .i64 (-1074)) ∧ w'.cell? ⟨w.heap.size, 2, none⟩ = some (.int .i64 63) ∧ Hid (Below w.heap.size w w'))
          (first | exact ⟨x0, x1, x2, HWd⟩ | exact ⟨cell_kept hb5 (by assumption), cell_kept hb5 (by assumption), cell_kept hb5 (by assumption), Lib.hid (below_chain (Hid.out (by assumption)) hb5)⟩)
          (first | (go_at_call 227; refine (infinity_walk fmD (.inr rfl) _).mono ?_; rintro e w5 ⟨rfl, hb5⟩))
        go_wp2
        go_ret
        exact ⟨ret_int (by rw [HF.out, HU0.out]; exact size_end0 4503599627370496 un _ HBD.out.2), below_chain HWd.out hb5⟩
      · have hl0 : (toL u).length = 1 := by rw [toL_small huW hu0]; rfl
        have hl1 : (0 : Int) < ((toL u).length : Int) := by omega
        obtain ⟨ad, e2, hck⟩ : ∃ ad, A1 = some ad ∧ ((w1.setCell ⟨w.heap.size + 1, 0, none⟩ (.bool false)).setCell ⟨w.heap.size + 1, 1, none⟩ (.slice A1 (toL u).length c1)).cell? ad = some (.int .u64 (u : Int)) := by
          obtain ⟨A2, c2, e2, hc2, hr2⟩ := HN2.out
          cases e2
          obtain ⟨ad, e3, hc3⟩ := hr2 (by omega)
          have h0 := hc3 0 (by omega)
          have e4 : el (toL u) 0 = u := by rw [toL_small huW hu0]; simp [el]
          rw [e4] at h0
          exact ⟨ad, e3, by simpa [Addr.add] using h0⟩
        subst e2
        clear hl0 hu0
        go_wp2_with fail
        have q1 : IntKind.i64.wrap ((-1074) + (un : Int) + 1074) = (un : Int) := by rw [IntWalk.i64_in _ (by omega)]; omega
        have q3 : IntKind.i64.wrap 52 = 52 := by decide
        have q2 : IntKind.u64.wrap (un : Int) = (un : Int) := by rw [IntKind.wrap_u64]; omega
        obtain ⟨x0, x1, x2, x3, x4, x5, x6⟩ := HXX.out
        have HWd := Lib.hid HW2.out.drew
        go_region_held3 (fun w' => w'.cell? ⟨w.heap.size, 0, none⟩ = some (.int .i64 53) ∧ w'.cell? ⟨w.heap.size, 1, none⟩ = some (.int .i64 (-1074)) ∧ w'.cell? ⟨w.heap.size, 2, none⟩ = some (.int .i64 63) ∧ Hid (Below w.heap.size w w'))
          (first | exact ⟨x0, x1, x2, HWd⟩ | exact ⟨cell_kept hb5 (by assumption), cell_kept hb5 (by assumption), cell_kept hb5 (by assumption), Lib.hid (below_chain (Hid.out (by assumption)) hb5)⟩)
          (first | (go_at_call 227; refine (infinity_walk fmD (.inr rfl) _).mono ?_; rintro e w5 ⟨rfl, hb5⟩))
        go_wp2
        go_ret
        exact ⟨ret_int (by rw [HF.out]; exact size_end 4503599627370496 un _ _ HBD.out.1), below_chain HWd.out hb5⟩

end Go.Proofs.YtibjogbalmbeeaaGreatDoor

namespace Go.Proofs.YtibjogbalmbeeaaGreatDoor
open Go.RowKit

theorem below_draw' (w : World) : Below w.heap.size w w.drew := (Below.refl _ _).drew
theorem inf_lt (f : Fm) (hf : f.ok) : f.inf < 2 ^ f.S := by rcases hf with h | h <;> subst h <;> decide
theorem rsize_le (f : Fm) (a : Nat) (x : Int) : rsize f a x ≤ f.inf := by
  unfold rsize; split
  · exact Nat.le_refl _
  · exact Nat.min_le_right _ _
/-- The pattern nearest to a * 2^x, the sign given. -/
def near (f : Fm) (neg : Bool) (a : Nat) (x : Int) : Nat := if a = 0 then 0 else sgn f neg (rsize f a x)

set_option maxRecDepth 100000 in
set_option maxHeartbeats 1000000 in
theorem nearest_walk_S (neg : Bool) (s : Value) (a : Nat) (x : Int) (w : World) (h : NatAt w s a) (ht : Tab64 w) (hb : blen a ≤ 500000) (hn : neg = true → a ≠ 0) (hx : -1048576 ≤ x) (hx2 : x ≤ 1048576) (hodd : a ≠ 0 → a % 2 = 1) (hz0 : a = 0 → x = 0) :
    Calls Tryz.prog 189 #[.int .i64 32, .agg #[.bool neg, s, .int .i64 x]] w fun e w' => e = .returned (.tuple #[.int .u64 ((near fmS neg a x : Nat) : Int), .int .i64 0]) ∧ Below w.heap.size w w' := by
  have H := Lib.hid h
  have HT := Lib.hid ht
  obtain ⟨A, c, rfl, hc, hr⟩ := h
  have HN := Lib.hid hn
  have HO := Lib.hid hodd
  have HZ0 := Lib.hid hz0
  have HL0 := Lib.hid (toL_length_zero a)
  clear hr hn hodd hz0 ht
  have hD0 : Box3 (w.alloc (.cells #[.bool neg, .slice A (toL a).length c, .int .i64 x] 86)) w.heap.size (.bool neg) (.slice A (toL a).length c) (.int .i64 x) := ⟨by simp, by simp, by simp, by simp, by simp, by simp, by simp⟩
  have HD0 := Lib.hid hD0
  clear hD0
  go_enter Tryz.func189, Tryz.ntmps189
  go_wp2_with fail
  have hw0 : Below w.heap.size w (w.alloc (.cells #[.bool neg, .slice A (toL a).length c, .int .i64 x] 86)) := below_alloc' w _
  have hD0 := HD0.out
  clear HD0
  generalize w.alloc (.cells #[.bool neg, .slice A (toL a).length c, .int .i64 x] 86) = W0 at *
  refine (rof_single W0).mono ?_
  rintro e w1 ⟨rfl, hb1⟩
  rw [show fmS.val = .agg #[.int .i64 24, .int .i64 (-149), .int .i64 31] from rfl]
  have hw1 := below_chain hw0 hb1
  have hD1 := hD0.below hb1
  have hw2 := below_chain hw1 (below_alloc' w1 (.cells #[.int .i64 24, .int .i64 (-149), .int .i64 31] 256))
  have hD2 := hD1.below (below_alloc' w1 (.cells #[.int .i64 24, .int .i64 (-149), .int .i64 31] 256))
  have hF2 : Box3 (w1.alloc (.cells #[.int .i64 24, .int .i64 (-149), .int .i64 31] 256)) w1.heap.size (.int .i64 24) (.int .i64 (-149)) (.int .i64 31) := ⟨by simp, by simp, by simp, by simp, by simp, by simp, by simp⟩
  have HF2 := Lib.hid hF2
  obtain ⟨x0, x1, x2, x3, x4, x5, x6⟩ := hD2
  clear hF2 hD0 hD1
  go_wp2_with fail
  have hD2 : Box3 (w1.alloc (.cells #[.int .i64 24, .int .i64 (-149), .int .i64 31] 256)) w.heap.size (.bool neg) (.slice A (toL a).length c) (.int .i64 x) := ⟨x0, x1, x2, x3, x4, x5, x6⟩
  have hF2 := HF2.out
  clear HF2 x0 x1 x2 x3 x4 x5 x6
  generalize w1.alloc (.cells #[.int .i64 24, .int .i64 (-149), .int .i64 31] 256) = W2 at *
  refine (dform_walk neg _ a x W2 (H.out.below hw2) (by omega) HN.out hx hx2 HO.out HZ0.out).mono ?_
  rintro e w3 ⟨rfl, hb3⟩
  have hw3 := below_chain hw2 hb3
  obtain ⟨x0, x1, x2, x3, x4, x5, x6⟩ := hD2.below hb3
  obtain ⟨y0, y1, y2, y3, y4, y5, y6⟩ := hF2.below hb3
  clear hD2 hF2
  by_cases hz : a = 0
  · have hl : (((toL a).length : Int) == 0) = true := by rw [beq_iff_eq]; have := HL0.out.2 hz; omega
    have HZ := Lib.hid (show near fmS neg a x = 0 by unfold near; rw [if_pos hz])
    clear hz
    go_wp2
    go_ret2
    exact ⟨by rw [HZ.out]; rfl, hw3⟩
  · have hl : (((toL a).length : Int) == 0) = false := by
      have h1 : (toL a).length ≠ 0 := fun e => hz (HL0.out.1 e)
      rw [beq_eq_false_iff_ne]; omega
    have HZ := Lib.hid (show near fmS neg a x = sgn fmS neg (rsize fmS a x) by unfold near; rw [if_neg hz])
    have HA := Lib.hid hz
    clear hz
    have HWd := Lib.hid hw3.drew
    have H3 := Lib.hid (show NatAt w3 (.slice A (toL a).length c) a from H.out.below hw3)
    have hT3 := HT.out.below hw3
    have HT3 := Lib.hid hT3
    clear hT3
    go_wp2_with fail
    go_region_held3 (fun w' => w'.cell? ⟨w.heap.size, 0, none⟩ = some (.bool neg) ∧ w'.cell? ⟨w.heap.size, 1, none⟩ = some (.slice A (toL a).length c) ∧ w'.cell? ⟨w.heap.size, 2, none⟩ = some (.int .i64 x) ∧
        w'.cell? ⟨w1.heap.size, 0, none⟩ = some (.int .i64 24) ∧ w'.cell? ⟨w1.heap.size, 1, none⟩ = some (.int .i64 (-149)) ∧ w'.cell? ⟨w1.heap.size, 2, none⟩ = some (.int .i64 31) ∧ Hid (NatAt w' (.slice A (toL a).length c) a) ∧ Hid (Tab64 w') ∧ Hid (Below w.heap.size w w'))
      (first | exact ⟨x0, x1, x2, y0, y1, y2, Lib.hid (H3.out.below (below_draw' w3)), Lib.hid (HT3.out.below (below_draw' w3)), HWd⟩ | (go_split_ands; exact ⟨cell_kept hb5 (by assumption), cell_kept hb5 (by assumption), cell_kept hb5 (by assumption), cell_kept hb5 (by assumption), cell_kept hb5 (by assumption), cell_kept hb5 (by assumption), Lib.hid (NatAt.below (Hid.out (by assumption)) hb5), Lib.hid (Tab64.below (Hid.out (by assumption)) hb5), Lib.hid (below_chain (Hid.out (by assumption)) hb5)⟩))
      (first | (go_at_call 209; refine (size_walk_S _ a x _ (Hid.out (by assumption)) (Hid.out (by assumption)) HA.out hb (by omega) (by omega)).mono ?_; rintro e w5 ⟨rfl, hb5⟩) | (go_at_call 208; refine (signed_walk fmS (.inl rfl) neg (rsize fmS a x) (Nat.lt_of_le_of_lt (rsize_le _ _ _) (inf_lt _ (.inl rfl))) _).mono ?_; rintro e w5 ⟨rfl, hb5⟩))
    go_wp2
    go_ret2
    exact ⟨by rw [HZ.out]; rfl, below_chain (below_chain HWd.out (by assumption)) hb5⟩

set_option maxRecDepth 100000 in
set_option maxHeartbeats 1000000 in
theorem nearest_walk_D (neg : Bool) (s : Value) (a : Nat) (x : Int) (w : World) (h : NatAt w s a) (ht : Tab64 w) (hb : blen a ≤ 500000) (hn : neg = true → a ≠ 0) (hx : -1048576 ≤ x) (hx2 : x ≤ 1048576) (hodd : a ≠ 0 → a % 2 = 1) (hz0 : a = 0 → x = 0) :
    Calls Tryz.prog 189 #[.int .i64 64, .agg #[.bool neg, s, .int .i64 x]] w fun e w' => e = .returned (.tuple #[.int .u64 ((near fmD neg a x : Nat) : Int), .int .i64 0]) ∧ Below w.heap.size w w' := by
  have H := Lib.hid h
  have HT := Lib.hid ht
  obtain ⟨A, c, rfl, hc, hr⟩ := h
  have HN := Lib.hid hn
  have HO := Lib.hid hodd
  have HZ0 := Lib.hid hz0
  have HL0 := Lib.hid (toL_length_zero a)
  clear hr hn hodd hz0 ht
  have hD0 : Box3 (w.alloc (.cells #[.bool neg, .slice A (toL a).length c, .int .i64 x] 86)) w.heap.size (.bool neg) (.slice A (toL a).length c) (.int .i64 x) := ⟨by simp, by simp, by simp, by simp, by simp, by simp, by simp⟩
  have HD0 := Lib.hid hD0
  clear hD0
  go_enter Tryz.func189, Tryz.ntmps189
  go_wp2_with fail
  have hw0 : Below w.heap.size w (w.alloc (.cells #[.bool neg, .slice A (toL a).length c, .int .i64 x] 86)) := below_alloc' w _
  have hD0 := HD0.out
  clear HD0
  generalize w.alloc (.cells #[.bool neg, .slice A (toL a).length c, .int .i64 x] 86) = W0 at *
  refine (rof_double W0).mono ?_
  rintro e w1 ⟨rfl, hb1⟩
  rw [show fmD.val = .agg #[.int .i64 53, .int .i64 (-1074), .int .i64 63] from rfl]
  have hw1 := below_chain hw0 hb1
  have hD1 := hD0.below hb1
  have hw2 := below_chain hw1 (below_alloc' w1 (.cells #[.int .i64 53, .int .i64 (-1074), .int .i64 63] 256))
  have hD2 := hD1.below (below_alloc' w1 (.cells #[.int .i64 53, .int .i64 (-1074), .int .i64 63] 256))
  have hF2 : Box3 (w1.alloc (.cells #[.int .i64 53, .int .i64 (-1074), .int .i64 63] 256)) w1.heap.size (.int .i64 53) (.int .i64 (-1074)) (.int .i64 63) := ⟨by simp, by simp, by simp, by simp, by simp, by simp, by simp⟩
  have HF2 := Lib.hid hF2
  obtain ⟨x0, x1, x2, x3, x4, x5, x6⟩ := hD2
  clear hF2 hD0 hD1
  go_wp2_with fail
  have hD2 : Box3 (w1.alloc (.cells #[.int .i64 53, .int .i64 (-1074), .int .i64 63] 256)) w.heap.size (.bool neg) (.slice A (toL a).length c) (.int .i64 x) := ⟨x0, x1, x2, x3, x4, x5, x6⟩
  have hF2 := HF2.out
  clear HF2 x0 x1 x2 x3 x4 x5 x6
  generalize w1.alloc (.cells #[.int .i64 53, .int .i64 (-1074), .int .i64 63] 256) = W2 at *
  refine (dform_walk neg _ a x W2 (H.out.below hw2) (by omega) HN.out hx hx2 HO.out HZ0.out).mono ?_
  rintro e w3 ⟨rfl, hb3⟩
  have hw3 := below_chain hw2 hb3
  obtain ⟨x0, x1, x2, x3, x4, x5, x6⟩ := hD2.below hb3
  obtain ⟨y0, y1, y2, y3, y4, y5, y6⟩ := hF2.below hb3
  clear hD2 hF2
  by_cases hz : a = 0
  · have hl : (((toL a).length : Int) == 0) = true := by rw [beq_iff_eq]; have := HL0.out.2 hz; omega
    have HZ := Lib.hid (show near fmD neg a x = 0 by unfold near; rw [if_pos hz])
    clear hz
    go_wp2
    go_ret2
    exact ⟨by rw [HZ.out]; rfl, hw3⟩
  · have hl : (((toL a).length : Int) == 0) = false := by
      have h1 : (toL a).length ≠ 0 := fun e => hz (HL0.out.1 e)
      rw [beq_eq_false_iff_ne]; omega
    have HZ := Lib.hid (show near fmD neg a x = sgn fmD neg (rsize fmD a x) by unfold near; rw [if_neg hz])
    have HA := Lib.hid hz
    clear hz
    have HWd := Lib.hid hw3.drew
    have H3 := Lib.hid (show NatAt w3 (.slice A (toL a).length c) a from H.out.below hw3)
    have hT3 := HT.out.below hw3
    have HT3 := Lib.hid hT3
    clear hT3
    go_wp2_with fail
    go_region_held3 (fun w' => w'.cell? ⟨w.heap.size, 0, none⟩ = some (.bool neg) ∧ w'.cell? ⟨w.heap.size, 1, none⟩ = some (.slice A (toL a).length c) ∧ w'.cell? ⟨w.heap.size, 2, none⟩ = some (.int .i64 x) ∧
        w'.cell? ⟨w1.heap.size, 0, none⟩ = some (.int .i64 53) ∧ w'.cell? ⟨w1.heap.size, 1, none⟩ = some (.int .i64 (-1074)) ∧ w'.cell? ⟨w1.heap.size, 2, none⟩ = some (.int .i64 63) ∧ Hid (NatAt w' (.slice A (toL a).length c) a) ∧ Hid (Tab64 w') ∧ Hid (Below w.heap.size w w'))
      (first | exact ⟨x0, x1, x2, y0, y1, y2, Lib.hid (H3.out.below (below_draw' w3)), Lib.hid (HT3.out.below (below_draw' w3)), HWd⟩ | (go_split_ands; exact ⟨cell_kept hb5 (by assumption), cell_kept hb5 (by assumption), cell_kept hb5 (by assumption), cell_kept hb5 (by assumption), cell_kept hb5 (by assumption), cell_kept hb5 (by assumption), Lib.hid (NatAt.below (Hid.out (by assumption)) hb5), Lib.hid (Tab64.below (Hid.out (by assumption)) hb5), Lib.hid (below_chain (Hid.out (by assumption)) hb5)⟩))
      (first | (go_at_call 209; refine (size_walk_D _ a x _ (Hid.out (by assumption)) (Hid.out (by assumption)) HA.out hb (by omega) (by omega)).mono ?_; rintro e w5 ⟨rfl, hb5⟩) | (go_at_call 208; refine (signed_walk fmD (.inr rfl) neg (rsize fmD a x) (Nat.lt_of_le_of_lt (rsize_le _ _ _) (inf_lt _ (.inr rfl))) _).mono ?_; rintro e w5 ⟨rfl, hb5⟩))
    go_wp2
    go_ret2
    exact ⟨by rw [HZ.out]; rfl, below_chain (below_chain HWd.out (by assumption)) hb5⟩

end Go.Proofs.YtibjogbalmbeeaaGreatDoor
