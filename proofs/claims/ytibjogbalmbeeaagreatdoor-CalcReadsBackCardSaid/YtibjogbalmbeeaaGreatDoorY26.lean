/- Walks: slices.Clone at the limbs of a number, dyadic.twin, dyadic.Neg of a positive number. · Walks of soft: turned, tell, read at a number; Neg of every size. · Walks of num: (way).div to nearest, NearDiv, of numbers from nought on. -/
import Derived.Test.YtibjogbalmbeeaaGreatDoorY25
import Derived.Test.YtibjogbalmbeeaaGreatDoorY18
import Derived.Test.YtibjogbalmbeeaaGreatDoorY04
import Derived.Test.YtibjogbalmbeeaaGreatDoorY15
import Derived.Test.YtibjogbalmbeeaaGreatDoorY06
import Derived.Deep.RegionHeld3

namespace Go.Proofs.YtibjogbalmbeeaaGreatDoor
open Go.RowKit

theorem infD : fmD.inf = 9218868437227405312 := by decide
/-- The number of a pattern, rounded, is the pattern. -/
theorem near_back {m u z : Nat} (hm : m % 2 = 1) (h : m * 2 ^ u = vP fmD z) (hz : z ≤ fmD.inf) (neg : Bool) : near fmD neg m (-1074 + (u : Int)) = sgn fmD neg z ∧ blen m ≤ 2099 := by
  have hm0 : m ≠ 0 := by omega
  obtain ⟨K, hK1, hK2⟩ := (Fm.ok.facts (f := fmD) (.inr rfl)).2.2.2
  have hL : fmD.L = -1074 := by decide
  have hb : blen m + u = blen (vP fmD z) := by rw [← h, blen_mul_pow hm0]
  have hb2 : blen (vP fmD z) ≤ K + 1 := blen_le.2 (by
    have h1 := vP_mono fmD hz
    rw [hK1] at h1
    have := Nat.two_pow_pos K
    rw [Nat.pow_succ]; omega)
  have hb1 := blen_pos hm0
  have e : hxPat fmD m (-1074 + (u : Int)) = z := hxPat_exact (f := fmD) (.inr rfl) (B := -1075) (by omega) (by rw [hL]; omega) hz (by
    unfold nv
    rw [hL, show (-1074 + (u : Int) - -1075).toNat = u + 1 by omega, show ((-1074 : Int) - -1075).toNat = 1 by omega, Nat.pow_succ, ← Nat.mul_assoc, h, Nat.pow_one])
  refine ⟨?_, by omega⟩
  have e2 : near fmD false m (-1074 + (u : Int)) = z := by
    unfold hxPat at e
    rw [if_neg (by omega), if_neg (by omega), tz_odd hm] at e
    simpa using e
  unfold near at e2 ⊢
  rw [if_neg hm0] at e2 ⊢
  have e3 : sgn fmD false (rsize fmD m (-1074 + (u : Int))) = rsize fmD m (-1074 + (u : Int)) := sgn_false _ _
  rw [e3] at e2
  rw [e2]

/-- A size has no sign. -/
theorem no_sign {z : Nat} (hz : z < 9223372036854775808) : (bits BinOp.and IntKind.u64 (z : Int) 9223372036854775808 != 0) = false := by
  have e : z &&& 9223372036854775808 = 0 := by
    rw [show (9223372036854775808 : Nat) = 2 ^ 63 from rfl]
    apply Nat.eq_of_testBit_eq
    intro i
    rw [Nat.testBit_and, Nat.zero_testBit, Nat.testBit_two_pow]
    by_cases h : i = 63
    · subst h; rw [Nat.testBit_lt_two_pow hz]; rfl
    · rw [decide_eq_false (fun e => h e.symm), Bool.and_false]
  have := bits_and_u64_nat z 9223372036854775808 (by omega) (by decide)
  rw [e] at this
  rw [show (9223372036854775808 : Int) = ((9223372036854775808 : Nat) : Int) from rfl, this]
  rfl
/-- A slice of the call's own holds a number. -/
theorem OwV.nat {w : World} {B : Nat} {v : Value} {a : Nat} (h : OwV w B v (toL a)) : NatAt w v a := by
  have h0 : w.ownsRow B 23 1 v (toL a).length (U (toL a)).toList := h
  rcases h.2 with ⟨e1, e2⟩ | ⟨q, cap, cur, e1, _, _, h3, _⟩
  · have hz : toL a = [] := List.length_eq_zero_iff.1 e2
    refine ⟨none, 0, by rw [e1, e2], by omega, ?_⟩
    rw [hz]; exact RdU.nil _ _
  · refine ⟨_, cap, e1, h3, fun _ => ⟨⟨q, 0, none⟩, rfl, fun j hj => ?_⟩⟩
    exact h0.cells (g := q) (by rw [e1]; rfl) j (.int .u64 ((el (toL a) j : Nat) : Int)) (by rw [Array.getElem?_toList, U_get hj])

theorem Box3.set0 {W : World} {g : Nat} {v0 v1 v2 : Value} (h : Box3 W g v0 v1 v2) (u : Value) : Box3 (W.setCell ⟨g, 0, none⟩ u) g u v1 v2 := by
  obtain ⟨h0, h1, h2, f0, f1, f2, hl⟩ := h
  exact ⟨World.cell?_setCell_same' _ _ _ (by rw [h0]; rfl), by rw [cell_other (by simp)]; exact h1, by rw [cell_other (by simp)]; exact h2, by simpa using f0, by simpa using f1, by simpa using f2, by simpa using hl⟩
theorem Box3.set1 {W : World} {g : Nat} {v0 v1 v2 : Value} (h : Box3 W g v0 v1 v2) (u : Value) : Box3 (W.setCell ⟨g, 1, none⟩ u) g v0 u v2 := by
  obtain ⟨h0, h1, h2, f0, f1, f2, hl⟩ := h
  exact ⟨by rw [cell_other (by simp)]; exact h0, World.cell?_setCell_same' _ _ _ (by rw [h1]; rfl), by rw [cell_other (by simp)]; exact h2, by simpa using f0, by simpa using f1, by simpa using f2, by simpa using hl⟩
theorem Box3.away {W : World} {g : Nat} {v0 v1 v2 : Value} (h : Box3 W g v0 v1 v2) (p : Addr) (hp : p.block ≠ g) (u : Value) : Box3 (W.setCell p u) g v0 v1 v2 := by
  obtain ⟨h0, h1, h2, f0, f1, f2, hl⟩ := h
  have e : ∀ j, (⟨g, j, none⟩ : Addr) ≠ p := fun j e => hp (by rw [← e])
  exact ⟨by rw [World.cell?_setCell_other _ _ _ _ (e 0).symm]; exact h0, by rw [World.cell?_setCell_other _ _ _ _ (e 1).symm]; exact h1, by rw [World.cell?_setCell_other _ _ _ _ (e 2).symm]; exact h2, by simpa using f0, by simpa using f1, by simpa using f2, by simpa using hl⟩
theorem Box3.away3 {W : World} {g g' : Nat} {v0 v1 v2 u0 u1 u2 : Value} (h : Box3 W g v0 v1 v2) (hp : g' ≠ g) : Box3 (put3 W g' u0 u1 u2) g v0 v1 v2 := ((h.away ⟨g', 0, none⟩ hp u0).away ⟨g', 1, none⟩ hp u1).away ⟨g', 2, none⟩ hp u2

set_option maxRecDepth 100000 in
set_option maxHeartbeats 1000000 in
theorem clone_walk (v : Value) (a : Nat) (w : World) (h : NatAt w v a) (ha : a ≠ 0) (hl : (toL a).length ≤ 100000) :
    Calls Tryz.prog 229 #[v] w fun e w' => ∃ v', e = .returned v' ∧ NatAt w' v' a ∧ Below w.heap.size w w' := by
  obtain ⟨A, c, rfl, hc, hr⟩ := h
  have h1 : 0 < (toL a).length := by have := toL_length_zero a; omega
  obtain ⟨ad, rfl, hcell⟩ := hr h1
  have q : ∀ (w : World) (a : Option Addr) (n c n' c' : Nat), (binOp .eql 67 (.slice a n c) (.slice none n' c')).run Tryz.prog w = .ok (.bool a.isNone) w := fun w a n c n' c' => Lib.run_eql_slice_nil w _ _ a n c n' c' Tryz.underlying67
  have hb0 := below_alloc' w (.cells #[] 23)
  have HO := Lib.hid (show OwV (w.alloc (.cells #[] 23)) w.heap.size (.slice (some ⟨w.heap.size, 0, none⟩) 0 0) [] from World.ownsRow_made w #[] 0 (Nat.le_refl _) (Nat.zero_le _) rfl)
  have HC := Lib.hid (fun (j : Nat) (hj : j < (toL a).length) => cell_kept hb0 (hcell j hj))
  have HB := Lib.hid hb0
  have HL := Lib.hid hl
  obtain ⟨n, hn⟩ : ∃ n, (toL a).length = n := ⟨_, rfl⟩
  rw [hn] at HC HL ⊢
  have HN := Lib.hid hn
  clear hn hb0 hcell hr hc hl h1 ha
  go_enter Tryz.func229, Tryz.ntmps229
  go_wp2_with (at_builtin; go_loud (refine wpList_appendV rfl (.tmp 5) (.tmp 6) rfl w.heap.size _ [] rfl HO.out ad n c (toL a) rfl HN.out HC.out (by have := HL.out; simp; omega) (by simp) (fun v' w1 h1 h2 => ?_); have H1 := Lib.hid h1; have H2 := Lib.hid (h2 w HB.out); clear h1 h2))
  exact bodyPost_ret (v := v') (by simp [results, Tryz.results229, go_sem]) rfl ⟨v', rfl, OwV.nat H1.out, H2.out⟩

set_option maxRecDepth 100000 in
set_option maxHeartbeats 1000000 in
theorem twin_walk (neg : Bool) (s : Value) (a : Nat) (x : Int) (w : World) (h : NatAt w s a) (ha : a ≠ 0) (hl : (toL a).length ≤ 100000) :
    Calls Tryz.prog 213 #[.agg #[.bool neg, s, .int .i64 x]] w fun e w' => ∃ s', e = .returned (.agg #[.bool neg, s', .int .i64 x]) ∧ NatAt w' s' a ∧ Below w.heap.size w w' := by
  obtain ⟨A, c, hs, _, _⟩ := id h
  have hA := below_alloc' w (.cells #[.bool neg, s, .int .i64 x] 86)
  have hC := below_chain hA (below_alloc' _ (.cells #[.bool false, .slice none 0 0, .int .i64 0] 86))
  have HK := Lib.hid (clone_walk s a _ (h.below hC) ha hl)
  have HB1 := Lib.hid (show Box3 ((w.alloc (.cells #[.bool neg, s, .int .i64 x] 86)).alloc (.cells #[.bool false, .slice none 0 0, .int .i64 0] 86)) w.heap.size (.bool neg) s (.int .i64 x) from ⟨by simp, by simp, by simp, by simp, by simp, by simp, by simp; omega⟩)
  have HB2 := Lib.hid (show Box3 ((w.alloc (.cells #[.bool neg, s, .int .i64 x] 86)).alloc (.cells #[.bool false, .slice none 0 0, .int .i64 0] 86)) (w.heap.size + 1) (.bool false) (.slice none 0 0) (.int .i64 0) from ⟨by simp, by simp, by simp, by simp, by simp, by simp, by simp⟩)
  have HC := Lib.hid hC
  subst hs
  obtain ⟨n, hn⟩ : ∃ n, (toL a).length = n := ⟨_, rfl⟩
  rw [hn] at HK HB1 HB2 HC ⊢
  clear hn hl hA hC h ha
  go_enter Tryz.func213, Tryz.ntmps213
  go_wp2_with fail
  refine HK.out.mono ?_
  rintro e w3 ⟨s3, rfl, hn3, hb3⟩
  have HN3 := Lib.hid hn3
  have HD1 := Lib.hid (HB1.out.below hb3)
  have HD2 := Lib.hid (HB2.out.below hb3)
  have HW3 := Lib.hid (below_chain HC.out hb3)
  obtain ⟨A3, c3, rfl, _, _⟩ := hn3
  obtain ⟨n3, hn3⟩ : ∃ n, (toL a).length = n := ⟨_, rfl⟩
  rw [hn3] at HN3 ⊢
  have HE1 := Lib.hid (HD1.out.set1 (.slice A3 n3 c3))
  have HE2 := Lib.hid (HD2.out.away ⟨w.heap.size, 1, none⟩ (by simp) (.slice A3 n3 c3))
  have HN4 := Lib.hid (HN3.out.write HD1.out.2.1 (by simp) (.slice A3 n3 c3))
  have HF2 := Lib.hid (HE2.out.put (u0 := .bool neg) (u1 := .slice A3 n3 c3) (u2 := .int .i64 x))
  have HN5 := Lib.hid (HN4.out.put3 HE2.out (by simp) (by simp) (by simp) (.bool neg) (.slice A3 n3 c3) (.int .i64 x))
  have HW5 := Lib.hid (put3_below (g := w.heap.size + 1) (u0 := .bool neg) (u1 := .slice A3 n3 c3) (u2 := .int .i64 x) (HW3.out.setCell (p := ⟨w.heap.size, 1, none⟩) (Nat.le_refl _) (.slice A3 n3 c3)) (by omega))
  obtain ⟨r0, r1, r2, r3, r4, r5, _⟩ := HD1.out
  obtain ⟨k0, k1, k2, k3, k4, k5, _⟩ := HE1.out
  obtain ⟨m0, m1, m2, m3, m4, m5, _⟩ := HE2.out
  clear hb3 hn3 HN3 HD1 HD2 HE1 HE2 HN4
  have hp := HF2.out
  unfold put3 at hp HN5 HW5
  obtain ⟨e0, e1, e2, _⟩ := hp
  go_wp2
  exact bodyPost_ret (v := .agg #[.bool neg, .slice A3 n3 c3, .int .i64 x]) (by simp [results, Tryz.results213, go_sem, e0, e1, e2]) rfl ⟨_, rfl, HN5.out, HW5.out⟩

set_option maxRecDepth 100000 in
set_option maxHeartbeats 1000000 in
theorem dneg_walk (s : Value) (a : Nat) (x : Int) (w : World) (h : NatAt w s a) (ha : a % 2 = 1) (hl : blen a ≤ 524288) (hx : -1048576 ≤ x) (hx2 : x ≤ 1048576) :
    Calls Tryz.prog 343 #[.agg #[.bool false, s, .int .i64 x]] w fun e w' => ∃ s', e = .returned (.tuple #[.agg #[.bool true, s', .int .i64 x], .int .i64 0]) ∧ NatAt w' s' a ∧ Below w.heap.size w w' := by
  have ha0 : a ≠ 0 := by omega
  obtain ⟨A, c, hs, _, _⟩ := id h
  have hsz : (toL a).length ≤ 100000 := by rw [toL_length]; omega
  have hA := below_alloc' w (.cells #[.bool false, s, .int .i64 x] 86)
  have hC := below_chain hA (below_alloc' _ (.cells #[.bool false, .slice none 0 0, .int .i64 0] 86))
  have HF := Lib.hid (dform_walk false s a x _ (h.below hC) hl (by simp) hx hx2 (fun _ => ha) (fun e => absurd e ha0))
  have HTw := Lib.hid (fun W (hW : NatAt W s a) => twin_walk false s a x W hW ha0 hsz)
  have HNo := Lib.hid (fun W (s' : Value) (hW : NatAt W s' a) => nought_walk false s' a x W hW)
  rw [decide_eq_false ha0] at HNo
  have HN := Lib.hid (h.below hC)
  have HB1 := Lib.hid (show Box3 ((w.alloc (.cells #[.bool false, s, .int .i64 x] 86)).alloc (.cells #[.bool false, .slice none 0 0, .int .i64 0] 86)) w.heap.size (.bool false) s (.int .i64 x) from ⟨by simp, by simp, by simp, by simp, by simp, by simp, by simp; omega⟩)
  have HB2 := Lib.hid (show Box3 ((w.alloc (.cells #[.bool false, s, .int .i64 x] 86)).alloc (.cells #[.bool false, .slice none 0 0, .int .i64 0] 86)) (w.heap.size + 1) (.bool false) (.slice none 0 0) (.int .i64 0) from ⟨by simp, by simp, by simp, by simp, by simp, by simp, by simp⟩)
  have HC := Lib.hid hC
  subst hs
  obtain ⟨n, hn⟩ : ∃ n, (toL a).length = n := ⟨_, rfl⟩
  rw [hn] at HF HTw HN HB1 HB2 HC ⊢
  clear hn hl hA hC h ha ha0 hx hx2 hsz
  go_enter Tryz.func343, Tryz.ntmps343
  go_wp2_with fail
  refine HF.out.mono ?_
  rintro e w3 ⟨rfl, hb3⟩
  have HD1 := Lib.hid (HB1.out.below hb3)
  have HD2 := Lib.hid (HB2.out.below hb3)
  have HW3 := Lib.hid (below_chain HC.out hb3)
  have HT3 := Lib.hid (HTw.out w3 (HN.out.below hb3))
  obtain ⟨r0, r1, r2, r3, r4, r5, _⟩ := HD1.out
  clear hb3 HB1 HB2 HC HF HTw
  go_wp2_with fail
  refine HT3.out.mono ?_
  rintro e w4 ⟨s4, rfl, hn4, hb4⟩
  have HN4 := Lib.hid hn4
  have HG1 := Lib.hid (HD1.out.below hb4)
  have HG2 := Lib.hid (HD2.out.below hb4)
  have HW4 := Lib.hid (below_chain HW3.out hb4)
  obtain ⟨A4, c4, rfl, _, _⟩ := hn4
  obtain ⟨n4, hn4⟩ : ∃ n, (toL a).length = n := ⟨_, rfl⟩
  rw [hn4] at HN4 ⊢
  have HI1 := Lib.hid (HG1.out.put (u0 := .bool false) (u1 := .slice A4 n4 c4) (u2 := .int .i64 x))
  have HI2 := Lib.hid (HG2.out.away3 (g' := w.heap.size) (u0 := .bool false) (u1 := .slice A4 n4 c4) (u2 := .int .i64 x) (by omega))
  have HN5 := Lib.hid (HN4.out.put3 HG1.out (by simp) (by simp) (by simp) (.bool false) (.slice A4 n4 c4) (.int .i64 x))
  have HW5 := Lib.hid (put3_below (g := w.heap.size) (u0 := .bool false) (u1 := .slice A4 n4 c4) (u2 := .int .i64 x) HW4.out (Nat.le_refl _))
  clear hb4 hn4 HD1 HD2 HT3 r0 r1 r2 r3 r4 r5 HW3 HW4
  obtain ⟨r0, r1, r2, r3, r4, r5, _⟩ := HG1.out
  have hq := HI1.out
  unfold put3 at hq HI1 HI2 HN5 HW5
  obtain ⟨q0, q1, q2, q3, q4, q5, _⟩ := hq
  have HNo5 := Lib.hid (HNo.out _ _ HN5.out)
  go_wp2_with fail
  refine HNo5.out.mono ?_
  rintro e w6 ⟨rfl, hb6⟩
  have HJ1 := Lib.hid (HI1.out.below hb6)
  have HJ2 := Lib.hid (HI2.out.below hb6)
  have HN6 := Lib.hid (HN5.out.below hb6)
  have HW6 := Lib.hid (below_chain HW5.out hb6)
  have HK1 := Lib.hid (HJ1.out.set0 (.bool true))
  have HK2 := Lib.hid (HJ2.out.away ⟨w.heap.size, 0, none⟩ (by simp) (.bool true))
  have HN7 := Lib.hid (HN6.out.write HJ1.out.1 (by simp) (.bool true))
  have HW7 := Lib.hid (HW6.out.setCell (p := ⟨w.heap.size, 0, none⟩) (Nat.le_refl _) (.bool true))
  have HL2 := Lib.hid (HK2.out.put (u0 := .bool true) (u1 := .slice A4 n4 c4) (u2 := .int .i64 x))
  have HN8 := Lib.hid (HN7.out.put3 HK2.out (by simp) (by simp) (by simp) (.bool true) (.slice A4 n4 c4) (.int .i64 x))
  have HW8 := Lib.hid (put3_below (g := w.heap.size + 1) (u0 := .bool true) (u1 := .slice A4 n4 c4) (u2 := .int .i64 x) HW7.out (by omega))
  clear hb6 HNo5 q0 q1 q2 q3 q4 q5 r0 r1 r2 r3 r4 r5 HG1 HG2 HI1 HI2 HN4 HN5 HW5 HN6 HW6 HJ2 HN7 HW7 HNo HN
  obtain ⟨q0, q1, q2, q3, q4, q5, _⟩ := HJ1.out
  obtain ⟨k0, k1, k2, k3, k4, k5, _⟩ := HK1.out
  obtain ⟨m0, m1, m2, m3, m4, m5, _⟩ := HK2.out
  have hp := HL2.out
  unfold put3 at hp HN8 HW8
  obtain ⟨e0, e1, e2, _⟩ := hp
  clear HJ1 HK1 HK2
  go_wp2
  exact bodyPost_ret (v := .tuple #[.agg #[.bool true, .slice A4 n4 c4, .int .i64 x], .int .i64 0]) (by simp [results, Tryz.results343, go_sem, e0, e1, e2]) rfl ⟨_, rfl, HN8.out, HW8.out⟩
end Go.Proofs.YtibjogbalmbeeaaGreatDoor

namespace Go.Proofs.YtibjogbalmbeeaaGreatDoor
open Go.RowKit

set_option maxRecDepth 100000 in
set_option maxHeartbeats 1000000 in
theorem turned_num (s : Value) (a : Nat) (x : Int) (w : World) (h : NatAt w s a) (ha : a % 2 = 1) (hl : blen a ≤ 524288) (hx : -1048576 ≤ x) (hx2 : x ≤ 1048576) :
    Calls Tryz.prog 462 #[.agg #[.bool false, s, .int .i64 x]] w fun e w' => ∃ s', e = .returned (.iface 233 (.agg #[.bool true, s', .int .i64 x])) ∧ NatAt w' s' a ∧ Below w.heap.size w w' := by
  obtain ⟨A, c, hs, _, _⟩ := id h
  have hA := below_alloc' w (.cells #[.bool false, s, .int .i64 x] 233)
  have HD := Lib.hid (dneg_walk s a x _ (h.below hA) ha hl hx hx2)
  have HA := Lib.hid hA
  subst hs
  obtain ⟨n, hn⟩ : ∃ n, (toL a).length = n := ⟨_, rfl⟩
  rw [hn] at HD HA ⊢
  clear hn hA h ha hl hx hx2
  go_enter Tryz.func462, Tryz.ntmps462
  go_wp2_with fail
  refine HD.out.mono ?_
  rintro e w3 ⟨s3, rfl, hn3, hb3⟩
  have HN3 := Lib.hid hn3
  have HW3 := Lib.hid (below_chain HA.out hb3)
  obtain ⟨A3, c3, rfl, _, _⟩ := hn3
  obtain ⟨n3, hn3⟩ : ∃ n, (toL a).length = n := ⟨_, rfl⟩
  rw [hn3] at HN3 ⊢
  have hb4 := below_alloc' w3 (.cells #[.bool true, .slice A3 n3 c3, .int .i64 x] 86)
  have HN4 := Lib.hid (HN3.out.below hb4)
  have HW4 := Lib.hid (below_chain HW3.out hb4)
  clear hb3 hb4 hn3 HD
  go_wp2
  exact bodyPost_ret (v := .iface 233 (.agg #[.bool true, .slice A3 n3 c3, .int .i64 x])) (by simp [results, Tryz.results462, go_sem]) rfl ⟨_, rfl, HN4.out, HW4.out⟩

set_option maxRecDepth 100000 in
set_option maxHeartbeats 1000000 in
theorem tell_num (s : Value) (a : Nat) (x : Int) (w : World) (h : NatAt w s a) (ht : Tab64 w) (ha : a % 2 = 1) (hl : blen a ≤ 500000) (hx : -1048576 ≤ x) (hx2 : x ≤ 1048576) :
    Calls Tryz.prog 169 #[.int .i64 64, .iface 233 (.agg #[.bool true, s, .int .i64 x])] w fun e w' => e = .returned (.tuple #[.int .u64 ((near fmD true a x : Nat) : Int), .int .i64 0]) ∧ Below w.heap.size w w' := by
  obtain ⟨A, c, hs, _, _⟩ := id h
  have hA := below_alloc' w (.cells #[.bool true, s, .int .i64 x] 233)
  have HD := Lib.hid (nearest_walk_D true s a x _ (h.below hA) (ht.below hA) hl (fun _ => by omega) hx hx2 (fun _ => ha) (fun e => by omega))
  have HA := Lib.hid hA
  subst hs
  obtain ⟨n, hn⟩ : ∃ n, (toL a).length = n := ⟨_, rfl⟩
  rw [hn] at HD HA ⊢
  have ht0 : ∀ W : World, (Instr.typeAssert (.iface 233 (.agg #[.bool true, .slice A n c, .int .i64 x])) 217 239 true).run Tryz.prog W = .ok (.tuple #[.agg #[.bool false], .bool false]) W := fun _ => by kernel_rfl
  have ht1 : ∀ W : World, (Instr.typeAssert (.iface 233 (.agg #[.bool true, .slice A n c, .int .i64 x])) 217 241 true).run Tryz.prog W = .ok (.tuple #[.agg #[.bool false], .bool false]) W := fun _ => by kernel_rfl
  have ht2 : ∀ W : World, (Instr.typeAssert (.iface 233 (.agg #[.bool true, .slice A n c, .int .i64 x])) 217 233 true).run Tryz.prog W = .ok (.tuple #[.agg #[.bool true, .slice A n c, .int .i64 x], .bool true]) W := fun _ => by kernel_rfl
  obtain ⟨y, hy⟩ : ∃ y : Int, ((near fmD true a x : Nat) : Int) = y := ⟨_, rfl⟩
  rw [hy] at HD ⊢
  clear hy hn hA h ha hl hx hx2 ht
  go_enter Tryz.func169, Tryz.ntmps169
  go_wp2_with fail
  refine HD.out.mono ?_
  rintro e w3 ⟨rfl, hb3⟩
  have HW3 := Lib.hid (below_chain HA.out hb3)
  clear hb3
  go_wp2_with fail
  exact bodyPost_ret (v := .tuple #[.int .u64 y, .int .i64 0]) (by simp [results, Tryz.results169, go_sem]) rfl ⟨rfl, HW3.out⟩

set_option maxRecDepth 100000 in
set_option maxHeartbeats 1000000 in
theorem read_num (z : Nat) (h0 : z ≠ 0) (hz : z < 9218868437227405312) (w : World) (ht : Tab64 w) :
    Calls Tryz.prog 187 #[.int .i64 64, .int .u64 (z : Int)] w fun e w' => ∃ (m u : Nat) (s : Value), e = .returned (.tuple #[.iface 233 (.agg #[.bool false, s, .int .i64 (-1074 + (u : Int))]), .int .i64 0]) ∧ NatAt w' s m ∧ m % 2 = 1 ∧ m * 2 ^ u = vP fmD z ∧ u ≤ 2200 ∧ Below w.heap.size w w' := by
  have hzm : z % 9223372036854775808 = z := Nat.mod_eq_of_lt (by omega)
  have hs := no_sign (z := z) (by omega)
  have HC := Lib.hid (classOf_D z (by omega) w)
  have HV := Lib.hid (fun W (hW : Tab64 W) => value_D z (by omega) (by omega) (by omega) W hW)
  rw [hzm, decide_eq_false (show ¬ 9223372036854775808 ≤ z by omega)] at HV
  rw [hzm] at HC
  have hcl : clsN 4503599627370496 9218868437227405312 z = 1 ∨ clsN 4503599627370496 9218868437227405312 z = 2 := by
    unfold clsN; rw [if_neg h0]
    split
    · exact .inl rfl
    · first | exact .inr rfl | (rw [if_pos hz]; exact .inr rfl)
  obtain ⟨c, hc⟩ : ∃ c, clsN 4503599627370496 9218868437227405312 z = c := ⟨_, rfl⟩
  rw [hc] at hcl HC
  have hc4 : ((c : Int) == 4) = false := by rw [beq_eq_false_iff_ne]; omega
  have hc3 : ((c : Int) == 3) = false := by rw [beq_eq_false_iff_ne]; omega
  have hc0 : ((c : Int) == 0) = false := by rw [beq_eq_false_iff_ne]; omega
  have HB := Lib.hid (fun W => softbit_walk W)
  have HT := Lib.hid ht
  clear hcl hc hzm h0 hz ht
  go_enter Tryz.func187, Tryz.ntmps187
  go_wp2_with fail
  refine HC.out.mono ?_
  rintro e w1 ⟨rfl, h1⟩
  have H1 := Lib.hid h1
  have HV1 := Lib.hid (HV.out w1 (HT.out.below h1))
  clear h1
  go_wp2_with fail
  refine (HB.out _).mono ?_
  rintro e w2 ⟨rfl, hw⟩
  (have h0 := hw.symm); subst h0
  clear hw
  go_wp2_with fail
  refine HV1.out.mono ?_
  rintro e w3 ⟨m, u, s, rfl, hn, hm, hu, hul, hb⟩
  have HN3 := Lib.hid hn
  have HW3 := Lib.hid (below_chain H1.out hb)
  have HM := Lib.hid (And.intro hm (And.intro hu hul))
  obtain ⟨A3, c3, rfl, _, _⟩ := hn
  obtain ⟨n3, hn3⟩ : ∃ n, (toL m).length = n := ⟨_, rfl⟩
  rw [hn3] at HN3 ⊢
  have hb4 := below_alloc' w3 (.cells #[.bool false, .slice A3 n3 c3, .int .i64 (-1074 + (u : Int))] 86)
  have HN4 := Lib.hid (HN3.out.below hb4)
  have HW4 := Lib.hid (below_chain HW3.out hb4)
  clear hb hb4 hn3 hm hu hul HV1 HV
  go_wp2
  exact bodyPost_ret (v := .tuple #[.iface 233 (.agg #[.bool false, .slice A3 n3 c3, .int .i64 (-1074 + (u : Int))]), .int .i64 0]) (by simp [results, Tryz.results187, go_sem]) rfl ⟨m, u, _, rfl, HN4.out, HM.out.1, HM.out.2.1, HM.out.2.2, HW4.out⟩

set_option maxRecDepth 100000 in
set_option maxHeartbeats 1000000 in
theorem neg_num (z : Nat) (h0 : z ≠ 0) (hz : z < 9218868437227405312) (w : World) (ht : Tab64 w) :
    Calls Tryz.prog 180 #[.int .i64 64, .int .u64 (z : Int)] w fun e w' => e = .returned (.tuple #[.int .u64 ((9223372036854775808 + z : Nat) : Int), .int .i64 0]) ∧ Below w.heap.size w w' := by
  have HR := Lib.hid (read_num z h0 hz w ht)
  have HT := Lib.hid ht
  have HZ := Lib.hid (show z ≤ fmD.inf by rw [infD]; omega)
  obtain ⟨y, hy⟩ : ∃ y : Int, ((9223372036854775808 + z : Nat) : Int) = y := ⟨_, rfl⟩
  rw [hy]
  have HY := Lib.hid hy
  clear hy h0 hz ht
  go_enter Tryz.func180, Tryz.ntmps180
  go_wp2_with fail
  refine HR.out.mono ?_
  rintro e w1 ⟨m, u, s, rfl, hn, hm, hu, hul, h1⟩
  obtain ⟨e1, e2⟩ := near_back hm hu HZ.out true
  have HU := Lib.hid (turned_num s m (-1074 + (u : Int)) w1 hn hm (by omega) (by omega) (by omega))
  have H1 := Lib.hid h1
  have HTl := Lib.hid (fun W s' (hW : NatAt W s' m) (hT : Tab64 W) => tell_num s' m (-1074 + (u : Int)) W hW hT hm (by omega) (by omega) (by omega))
  rw [e1, show sgn fmD true z = 9223372036854775808 + z from rfl, HY.out] at HTl
  obtain ⟨A, c, rfl, _, _⟩ := hn
  obtain ⟨n, hn⟩ : ∃ n, (toL m).length = n := ⟨_, rfl⟩
  rw [hn] at HU ⊢
  clear h1 e1 e2 hm hu hul hn
  go_wp2_with fail
  refine HU.out.mono ?_
  rintro e w2 ⟨s', rfl, hn2, h2⟩
  have H2 := Lib.hid (below_chain H1.out h2)
  have HTl2 := Lib.hid (HTl.out w2 s' hn2 (HT.out.below H2.out))
  obtain ⟨A2, c2, rfl, _, _⟩ := hn2
  obtain ⟨n2, hn2⟩ : ∃ n, (toL m).length = n := ⟨_, rfl⟩
  rw [hn2] at HTl2 ⊢
  clear h2 hn2 HTl HU
  go_wp2_with fail
  refine HTl2.out.mono ?_
  rintro e w3 ⟨rfl, h3⟩
  have H3 := Lib.hid (below_chain H2.out h3)
  clear h3
  go_wp2_with fail
  exact bodyPost_ret (v := .tuple #[.int .u64 y, .int .i64 0]) (by simp [results, Tryz.results180, go_sem]) rfl ⟨rfl, H3.out⟩

/-- Neg of a size sets the sign. -/
theorem neg_D (z : Nat) (hz : z ≤ 9218868437227405312) (w : World) (ht : Tab64 w) :
    Calls Tryz.prog 180 #[.int .i64 64, .int .u64 (z : Int)] w fun e w' => e = .returned (.tuple #[.int .u64 ((9223372036854775808 + z : Nat) : Int), .int .i64 0]) ∧ Below w.heap.size w w' := by
  have hzm : z % 9223372036854775808 = z := Nat.mod_eq_of_lt (by omega)
  have hc := fun W => classOf_D z (by omega) W
  simp only [hzm] at hc
  by_cases h0 : z = 0
  · subst h0
    exact neg_nought false 0 w (fun U => read_nought 0 false U (no_sign (by omega)) (hc U))
  by_cases hi : z = 9218868437227405312
  · subst hi
    exact neg_inf false 9218868437227405312 w (fun U => read_inf 9218868437227405312 false U (no_sign (by omega)) (hc U))
  · exact neg_num z h0 (by omega) w ht
end Go.Proofs.YtibjogbalmbeeaaGreatDoor

namespace Go.Proofs.YtibjogbalmbeeaaGreatDoor
open Go.RowKit

/-- What stands in memory while a quotient is rounded. -/
structure DvS (w w' : World) (vx vy : Value) (a b : Nat) : Prop where
  x0 : w'.cell? ⟨w.heap.size, 0, none⟩ = some (.bool false)
  x1 : w'.cell? ⟨w.heap.size, 1, none⟩ = some vx
  y0 : w'.cell? ⟨w.heap.size + 1, 0, none⟩ = some (.bool false)
  y1 : w'.cell? ⟨w.heap.size + 1, 1, none⟩ = some vy
  r : Box2 w' (w.heap.size + 1 + 1) (.bool false) (.slice none 0 0)
  da : NatAt w' vx a
  db : NatAt w' vy b
  bl : Below w.heap.size w w'
theorem DvS.below {w w1 w2 : World} {vx vy : Value} {a b : Nat} (h : DvS w w1 vx vy a b) (hb : Below w1.heap.size w1 w2) : DvS w w2 vx vy a b :=
  ⟨cell_kept hb h.x0, cell_kept hb h.x1, cell_kept hb h.y0, cell_kept hb h.y1, h.r.below hb, h.da.below hb, h.db.below hb, below_chain h.bl hb⟩

/-- Two cells that may be written and hold no word. -/
def AnyR (W : World) (g : Nat) : Prop := (∃ v0 v1, W.cell? ⟨g, 0, none⟩ = some v0 ∧ W.cell? ⟨g, 1, none⟩ = some v1 ∧ (∀ x, v0 ≠ .int .u64 x) ∧ (∀ x, v1 ≠ .int .u64 x)) ∧ W.frozen? ⟨g, 0, none⟩ = false ∧ W.frozen? ⟨g, 1, none⟩ = false ∧ g < W.heap.size
theorem AnyR.below {W w1 : World} {g : Nat} (h : AnyR W g) (hb : Below W.heap.size W w1) : AnyR w1 g := by
  obtain ⟨⟨v0, v1, h0, h1, n0, n1⟩, f0, f1, hl⟩ := h
  exact ⟨⟨v0, v1, cell_kept hb h0, cell_kept hb h1, n0, n1⟩, (hb.frozen (p := ⟨g, 0, none⟩) hl).trans f0, (hb.frozen (p := ⟨g, 1, none⟩) hl).trans f1, Nat.lt_of_lt_of_le hl hb.size⟩
/-- The world behind a struct of a sign and a slice that was stored. -/
def put2 (W : World) (g : Nat) (u0 u1 : Value) : World := (W.setCell ⟨g, 0, none⟩ u0).setCell ⟨g, 1, none⟩ u1
theorem AnyR.put {W : World} {g : Nat} (h : AnyR W g) {A : Option Addr} {b : Bool} {n c : Nat} : AnyR (put2 W g (.bool b) (.slice A n c)) g ∧ (put2 W g (.bool b) (.slice A n c)).cell? ⟨g, 0, none⟩ = some (.bool b) ∧ (put2 W g (.bool b) (.slice A n c)).cell? ⟨g, 1, none⟩ = some (.slice A n c) := by
  obtain ⟨⟨v0, v1, h0, h1, n0, n1⟩, f0, f1, hl⟩ := h
  have e0 : (put2 W g (.bool b) (.slice A n c)).cell? ⟨g, 0, none⟩ = some (.bool b) := by
    unfold put2; rw [cell_other (by simp)]; exact World.cell?_setCell_same' _ _ _ (by rw [h0]; rfl)
  have e1 : (put2 W g (.bool b) (.slice A n c)).cell? ⟨g, 1, none⟩ = some (.slice A n c) := World.cell?_setCell_same' _ _ _ (by rw [cell_other (by simp), h1]; rfl)
  exact ⟨⟨⟨_, _, e0, e1, by simp, by simp⟩, by unfold put2; simpa using f0, by unfold put2; simpa using f1, by unfold put2; simpa using hl⟩, e0, e1⟩
theorem NatAt.put2 {W : World} {v : Value} {a g : Nat} (h : NatAt W v a) (hr : AnyR W g) (u0 u1 : Value) : NatAt (put2 W g u0 u1) v a := by
  obtain ⟨⟨v0, v1, h0, h1, n0, n1⟩, _⟩ := hr
  exact (h.write h0 n0 u0).write (by rw [cell_other (by simp)]; exact h1) n1 u1
theorem put2_far {W : World} {g g' j : Nat} {u0 u1 v : Value} (hne : g ≠ g') (h : W.cell? ⟨g', j, none⟩ = some v) : (put2 W g u0 u1).cell? ⟨g', j, none⟩ = some v := by
  unfold put2
  rw [cell_other (fun e => hne (congrArg Addr.block e)), cell_other (fun e => hne (congrArg Addr.block e))]; exact h
theorem put2_below {B : Nat} {w W : World} {g : Nat} {u0 u1 : Value} (h : Below B w W) (hg : B ≤ g) : Below B w (put2 W g u0 u1) := (h.setCell (p := ⟨g, 0, none⟩) hg _).setCell (p := ⟨g, 1, none⟩) hg _
structure DvR (w w' : World) (vq vr vl : Value) (q r l : Nat) : Prop where
  x0 : w'.cell? ⟨w.heap.size, 0, none⟩ = some (.bool false)
  y0 : w'.cell? ⟨w.heap.size + 1, 0, none⟩ = some (.bool false)
  rr : AnyR w' (w.heap.size + 1 + 1)
  dq : NatAt w' vq q
  dr : NatAt w' vr r
  dl : NatAt w' vl l
  bl : Below w.heap.size w w'
theorem DvR.below {w w1 w2 : World} {vq vr vl : Value} {q r l : Nat} (h : DvR w w1 vq vr vl q r l) (hb : Below w1.heap.size w1 w2) : DvR w w2 vq vr vl q r l :=
  ⟨cell_kept hb h.x0, cell_kept hb h.y0, h.rr.below hb, h.dq.below hb, h.dr.below hb, h.dl.below hb, below_chain h.bl hb⟩
theorem DvR.put {w w1 : World} {vq vr vl : Value} {q r l : Nat} (h : DvR w w1 vq vr vl q r l) {A : Option Addr} {b : Bool} {n c : Nat} : DvR w (put2 w1 (w.heap.size + 1 + 1) (.bool b) (.slice A n c)) vq vr vl q r l :=
  ⟨put2_far (by omega) h.x0, put2_far (by omega) h.y0, h.rr.put.1, h.dq.put2 h.rr _ _, h.dr.put2 h.rr _ _, h.dl.put2 h.rr _ _, put2_below h.bl (by omega)⟩

end Go.Proofs.YtibjogbalmbeeaaGreatDoor
