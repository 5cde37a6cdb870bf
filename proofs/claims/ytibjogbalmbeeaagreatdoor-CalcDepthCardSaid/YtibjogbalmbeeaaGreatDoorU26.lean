/- Walks of soft: turned, tell, read at a number; Neg of every size. · Walks of soft: Neg and Abs of numbers of either sign. · Walks of soft: read, Neg at a negative number; Abs at a positive one. -/
import Derived.Test.YtibjogbalmbeeaaGreatDoorU25

namespace Go.Proofs.YtibjogbalmbeeaaGreatDoor
open Go.RowKit

set_option maxRecDepth 100000 in
set_option maxHeartbeats 1000000 in
theorem turned_num (s : Value) (a : Nat) (x : Int) (w : World) (h : NatAt w s a) (ha : a % 2 = 1) (hl : blen a ≤ 524288) (hx : -1048576 ≤ x) (hx2 : x ≤ 1048576) :
    Calls Tryz.prog 462 #[.agg #[.bool false, s, .int .i64 x]] w fun e w' => ∃ s', e = .returned (.iface 233 (.agg #[.bool true, s', .int .i64 x])) ∧ NatAt w' s' a ∧ Below w.heap.size w w' := by
  obtain ⟨A, c, hs, _, _⟩ := id h
  have hA := below_alloc' w (.cells #[.bool false, s, .int .i64 x] 233)
  have HD := Lib.hid (dneg_walk s a x _ (h.below hA) ha hl hx hx2)
  have HA := Lib.hid hA
  subst hs
  obtain ⟨n, hn⟩ : ∃ n, (toL a).length = n := ⟨_, rfl⟩
  rw [hn] at HD HA ⊢
  clear hn hA h ha hl hx hx2
  go_enter Tryz.func462, Tryz.ntmps462
  go_wp2_with fail
  refine HD.out.mono ?_
  rintro e w3 ⟨s3, rfl, hn3, hb3⟩
  have HN3 := Lib.hid hn3
  have HW3 := Lib.hid (below_chain HA.out hb3)
  obtain ⟨A3, c3, rfl, _, _⟩ := hn3
  obtain ⟨n3, hn3⟩ : ∃ n, (toL a).length = n := ⟨_, rfl⟩
  rw [hn3] at HN3 ⊢
  have hb4 := below_alloc' w3 (.cells #[.bool true, .slice A3 n3 c3, .int .i64 x] 86)
  have HN4 := Lib.hid (HN3.out.below hb4)
  have HW4 := Lib.hid (below_chain HW3.out hb4)
  clear hb3 hb4 hn3 HD
  go_wp2
  exact bodyPost_ret (v := .iface 233 (.agg #[.bool true, .slice A3 n3 c3, .int .i64 x])) (by simp [results, Tryz.results462, go_sem]) rfl ⟨_, rfl, HN4.out, HW4.out⟩

set_option maxRecDepth 100000 in
set_option maxHeartbeats 1000000 in
theorem tell_num (s : Value) (a : Nat) (x : Int) (w : World) (h : NatAt w s a) (ht : Tab64 w) (ha : a % 2 = 1) (hl : blen a ≤ 500000) (hx : -1048576 ≤ x) (hx2 : x ≤ 1048576) :
    Calls Tryz.prog 169 #[.int .i64 64, .iface 233 (.agg #[.bool true, s, .int .i64 x])] w fun e w' => e = .returned (.tuple #[.int .u64 ((near fmD true a x : Nat) : Int), .int .i64 0]) ∧ Below w.heap.size w w' := by
  obtain ⟨A, c, hs, _, _⟩ := id h
  have hA := below_alloc' w (.cells #[.bool true, s, .int .i64 x] 233)
  have HD := Lib.hid (nearest_walk_D true s a x _ (h.below hA) (ht.below hA) hl (fun _ => by omega) hx hx2 (fun _ => ha) (fun e => by omega))
  have HA := Lib.hid hA
  subst hs
  obtain ⟨n, hn⟩ : ∃ n, (toL a).length = n := ⟨_, rfl⟩
  rw [hn] at HD HA ⊢
  have ht0 : ∀ W : World, (Instr.typeAssert (.iface 233 (.agg #[.bool true, .slice A n c, .int .i64 x])) 217 239 true).run Tryz.prog W = .ok (.tuple #[.agg #[.bool false], .bool false]) W := fun _ => by kernel_rfl
  have ht1 : ∀ W : World, (Instr.typeAssert (.iface 233 (.agg #[.bool true, .slice A n c, .int .i64 x])) 217 241 true).run Tryz.prog W = .ok (.tuple #[.agg #[.bool false], .bool false]) W := fun _ => by kernel_rfl
  have ht2 : ∀ W : World, (Instr.typeAssert (.iface 233 (.agg #[.bool true, .slice A n c, .int .i64 x])) 217 233 true).run Tryz.prog W = .ok (.tuple #[.agg #[.bool true, .slice A n c, .int .i64 x], .bool true]) W := fun _ => by kernel_rfl
  obtain ⟨y, hy⟩ : ∃ y : Int, ((near fmD true a x : Nat) : Int) = y := ⟨_, rfl⟩
  rw [hy] at HD ⊢
  clear hy hn hA h ha hl hx hx2 ht
  go_enter Tryz.func169, Tryz.ntmps169
  go_wp2_with fail
  refine HD.out.mono ?_
  rintro e w3 ⟨rfl, hb3⟩
  have HW3 := Lib.hid (below_chain HA.out hb3)
  clear hb3
  go_wp2_with fail
  exact bodyPost_ret (v := .tuple #[.int .u64 y, .int .i64 0]) (by simp [results, Tryz.results169, go_sem]) rfl ⟨rfl, HW3.out⟩

set_option maxRecDepth 100000 in
set_option maxHeartbeats 1000000 in
theorem read_num (z : Nat) (h0 : z ≠ 0) (hz : z < 9218868437227405312) (w : World) (ht : Tab64 w) :
    Calls Tryz.prog 187 #[.int .i64 64, .int .u64 (z : Int)] w fun e w' => ∃ (m u : Nat) (s : Value), e = .returned (.tuple #[.iface 233 (.agg #[.bool false, s, .int .i64 (-1074 + (u : Int))]), .int .i64 0]) ∧ NatAt w' s m ∧ m % 2 = 1 ∧ m * 2 ^ u = vP fmD z ∧ u ≤ 2200 ∧ Below w.heap.size w w' := by
  have hzm : z % 9223372036854775808 = z := Nat.mod_eq_of_lt (by omega)
  have hs := no_sign (z := z) (by omega)
  have HC := Lib.hid (classOf_D z (by omega) w)
  have HV := Lib.hid (fun W (hW : Tab64 W) => value_D z (by omega) (by omega) (by omega) W hW)
  rw [hzm, decide_eq_false (show ¬ 9223372036854775808 ≤ z by omega)] at HV
  rw [hzm] at HC
  have hcl : clsN 4503599627370496 9218868437227405312 z = 1 ∨ clsN 4503599627370496 9218868437227405312 z = 2 := by
    unfold clsN; rw [if_neg h0]
    split
    · exact .inl rfl
    · first | exact .inr rfl | (rw [if_pos hz]; exact .inr rfl)
  obtain ⟨c, hc⟩ : ∃ c, clsN 4503599627370496 9218868437227405312 z = c := ⟨_, rfl⟩
  rw [hc] at hcl HC
  have hc4 : ((c : Int) == 4) = false := by rw [beq_eq_false_iff_ne]; omega
  have hc3 : ((c : Int) == 3) = false := by rw [beq_eq_false_iff_ne]; omega
  have hc0 : ((c : Int) == 0) = false := by rw [beq_eq_false_iff_ne]; omega
  have HB := Lib.hid (fun W => softbit_walk W)
  have HT := Lib.hid ht
  clear hcl hc hzm h0 hz ht
  go_enter Tryz.func187, Tryz.ntmps187
  go_wp2_with fail
  refine HC.out.mono ?_
  rintro e w1 ⟨rfl, h1⟩
  have H1 := Lib.hid h1
  have HV1 := Lib.hid (HV.out w1 (HT.out.below h1))
  clear h1
  go_wp2_with fail
  refine (HB.out _).mono ?_
  rintro e w2 ⟨rfl, hw⟩
  (have h0 := hw.symm); subst h0
  clear hw
  go_wp2_with fail
  refine HV1.out.mono ?_
  rintro e w3 ⟨m, u, s, rfl, hn, hm, hu, hul, hb⟩
  have HN3 := Lib.hid hn
  have HW3 := Lib.hid (below_chain H1.out hb)
  have HM := Lib.hid (And.intro hm (And.intro hu hul))
  obtain ⟨A3, c3, rfl, _, _⟩ := hn
  obtain ⟨n3, hn3⟩ : ∃ n, (toL m).length = n := ⟨_, rfl⟩
  rw [hn3] at HN3 ⊢
  have hb4 := below_alloc' w3 (.cells #[.bool false, .slice A3 n3 c3, .int .i64 (-1074 + (u : Int))] 86)
  have HN4 := Lib.hid (HN3.out.below hb4)
  have HW4 := Lib.hid (below_chain HW3.out hb4)
  clear hb hb4 hn3 hm hu hul HV1 HV
  go_wp2
  exact bodyPost_ret (v := .tuple #[.iface 233 (.agg #[.bool false, .slice A3 n3 c3, .int .i64 (-1074 + (u : Int))]), .int .i64 0]) (by simp [results, Tryz.results187, go_sem]) rfl ⟨m, u, _, rfl, HN4.out, HM.out.1, HM.out.2.1, HM.out.2.2, HW4.out⟩

set_option maxRecDepth 100000 in
set_option maxHeartbeats 1000000 in
theorem neg_num (z : Nat) (h0 : z ≠ 0) (hz : z < 9218868437227405312) (w : World) (ht : Tab64 w) :
    Calls Tryz.prog 180 #[.int .i64 64, .int .u64 (z : Int)] w fun e w' => e = .returned (.tuple #[.int .u64 ((9223372036854775808 + z : Nat) : Int), .int .i64 0]) ∧ Below w.heap.size w w' := by
  have HR := Lib.hid (read_num z h0 hz w ht)
  have HT := Lib.hid ht
  have HZ := Lib.hid (show z ≤ fmD.inf by rw [infD]; omega)
  obtain ⟨y, hy⟩ : ∃ y : Int, ((9223372036854775808 + z : Nat) : Int) = y := ⟨_, rfl⟩
  rw [hy]
  have HY := Lib.hid hy
  clear hy h0 hz ht
  go_enter Tryz.func180, Tryz.ntmps180
  go_wp2_with fail
  refine HR.out.mono ?_
  rintro e w1 ⟨m, u, s, rfl, hn, hm, hu, hul, h1⟩
  obtain ⟨e1, e2⟩ := near_back hm hu HZ.out true
  have HU := Lib.hid (turned_num s m (-1074 + (u : Int)) w1 hn hm (by omega) (by omega) (by omega))
  have H1 := Lib.hid h1
  have HTl := Lib.hid (fun W s' (hW : NatAt W s' m) (hT : Tab64 W) => tell_num s' m (-1074 + (u : Int)) W hW hT hm (by omega) (by omega) (by omega))
  rw [e1, show sgn fmD true z = 9223372036854775808 + z from rfl, HY.out] at HTl
  obtain ⟨A, c, rfl, _, _⟩ := hn
  obtain ⟨n, hn⟩ : ∃ n, (toL m).length = n := ⟨_, rfl⟩
  rw [hn] at HU ⊢
  clear h1 e1 e2 hm hu hul hn
  go_wp2_with fail
  refine HU.out.mono ?_
  rintro e w2 ⟨s', rfl, hn2, h2⟩
  have H2 := Lib.hid (below_chain H1.out h2)
  have HTl2 := Lib.hid (HTl.out w2 s' hn2 (HT.out.below H2.out))
  obtain ⟨A2, c2, rfl, _, _⟩ := hn2
  obtain ⟨n2, hn2⟩ : ∃ n, (toL m).length = n := ⟨_, rfl⟩
  rw [hn2] at HTl2 ⊢
  clear h2 hn2 HTl HU
  go_wp2_with fail
  refine HTl2.out.mono ?_
  rintro e w3 ⟨rfl, h3⟩
  have H3 := Lib.hid (below_chain H2.out h3)
  clear h3
  go_wp2_with fail
  exact bodyPost_ret (v := .tuple #[.int .u64 y, .int .i64 0]) (by simp [results, Tryz.results180, go_sem]) rfl ⟨rfl, H3.out⟩

/-- Neg of a size sets the sign. -/
theorem neg_D (z : Nat) (hz : z ≤ 9218868437227405312) (w : World) (ht : Tab64 w) :
    Calls Tryz.prog 180 #[.int .i64 64, .int .u64 (z : Int)] w fun e w' => e = .returned (.tuple #[.int .u64 ((9223372036854775808 + z : Nat) : Int), .int .i64 0]) ∧ Below w.heap.size w w' := by
  have hzm : z % 9223372036854775808 = z := Nat.mod_eq_of_lt (by omega)
  have hc := fun W => classOf_D z (by omega) W
  simp only [hzm] at hc
  by_cases h0 : z = 0
  · subst h0
    exact neg_nought false 0 w (fun U => read_nought 0 false U (no_sign (by omega)) (hc U))
  by_cases hi : z = 9218868437227405312
  · subst hi
    exact neg_inf false 9218868437227405312 w (fun U => read_inf 9218868437227405312 false U (no_sign (by omega)) (hc U))
  · exact neg_num z h0 (by omega) w ht
end Go.Proofs.YtibjogbalmbeeaaGreatDoor

namespace Go.Proofs.YtibjogbalmbeeaaGreatDoor
open Go.RowKit

set_option maxRecDepth 100000 in
set_option maxHeartbeats 1000000 in
theorem dneg_neg (s : Value) (a : Nat) (x : Int) (w : World) (h : NatAt w s a) (ha : a % 2 = 1) (hl : blen a ≤ 524288) (hx : -1048576 ≤ x) (hx2 : x ≤ 1048576) :
    Calls Tryz.prog 343 #[.agg #[.bool true, s, .int .i64 x]] w fun e w' => ∃ s', e = .returned (.tuple #[.agg #[.bool false, s', .int .i64 x], .int .i64 0]) ∧ NatAt w' s' a ∧ Below w.heap.size w w' := by
  have ha0 : a ≠ 0 := by omega
  obtain ⟨A, c, hs, _, _⟩ := id h
  have hsz : (toL a).length ≤ 100000 := by rw [toL_length]; omega
  have hA := below_alloc' w (.cells #[.bool true, s, .int .i64 x] 86)
  have hC := below_chain hA (below_alloc' _ (.cells #[.bool false, .slice none 0 0, .int .i64 0] 86))
  have HF := Lib.hid (dform_walk true s a x _ (h.below hC) hl (fun _ => ha0) hx hx2 (fun _ => ha) (fun e => absurd e ha0))
  have HTw := Lib.hid (fun W (hW : NatAt W s a) => twin_walk true s a x W hW ha0 hsz)
  have HN := Lib.hid (h.below hC)
  have HB1 := Lib.hid (show Box3 ((w.alloc (.cells #[.bool true, s, .int .i64 x] 86)).alloc (.cells #[.bool false, .slice none 0 0, .int .i64 0] 86)) w.heap.size (.bool true) s (.int .i64 x) from ⟨by simp, by simp, by simp, by simp, by simp, by simp, by simp; omega⟩)
  have HB2 := Lib.hid (show Box3 ((w.alloc (.cells #[.bool true, s, .int .i64 x] 86)).alloc (.cells #[.bool false, .slice none 0 0, .int .i64 0] 86)) (w.heap.size + 1) (.bool false) (.slice none 0 0) (.int .i64 0) from ⟨by simp, by simp, by simp, by simp, by simp, by simp, by simp⟩)
  have HC := Lib.hid hC
  subst hs
  obtain ⟨n, hn⟩ : ∃ n, (toL a).length = n := ⟨_, rfl⟩
  rw [hn] at HF HTw HN HB1 HB2 HC ⊢
  clear hn hl hA hC h ha ha0 hx hx2 hsz
  go_enter Tryz.func343, Tryz.ntmps343
  go_wp2_with fail
  refine HF.out.mono ?_
  rintro e w3 ⟨rfl, hb3⟩
  have HD1 := Lib.hid (HB1.out.below hb3)
  have HD2 := Lib.hid (HB2.out.below hb3)
  have HW3 := Lib.hid (below_chain HC.out hb3)
  have HT3 := Lib.hid (HTw.out w3 (HN.out.below hb3))
  obtain ⟨r0, r1, r2, r3, r4, r5, _⟩ := HD1.out
  clear hb3 HB1 HB2 HC HF HTw
  go_wp2_with fail
  refine HT3.out.mono ?_
  rintro e w4 ⟨s4, rfl, hn4, hb4⟩
  have HN4 := Lib.hid hn4
  have HG1 := Lib.hid (HD1.out.below hb4)
  have HG2 := Lib.hid (HD2.out.below hb4)
  have HW4 := Lib.hid (below_chain HW3.out hb4)
  obtain ⟨A4, c4, rfl, _, _⟩ := hn4
  obtain ⟨n4, hn4⟩ : ∃ n, (toL a).length = n := ⟨_, rfl⟩
  rw [hn4] at HN4 ⊢
  have HI1 := Lib.hid (HG1.out.put (u0 := .bool true) (u1 := .slice A4 n4 c4) (u2 := .int .i64 x))
  have HI2 := Lib.hid (HG2.out.away3 (g' := w.heap.size) (u0 := .bool true) (u1 := .slice A4 n4 c4) (u2 := .int .i64 x) (by omega))
  have HN5 := Lib.hid (HN4.out.put3 HG1.out (by simp) (by simp) (by simp) (.bool true) (.slice A4 n4 c4) (.int .i64 x))
  have HW5 := Lib.hid (put3_below (g := w.heap.size) (u0 := .bool true) (u1 := .slice A4 n4 c4) (u2 := .int .i64 x) HW4.out (Nat.le_refl _))
  clear hb4 hn4 HD1 HD2 HT3 r0 r1 r2 r3 r4 r5 HW3 HW4
  obtain ⟨r0, r1, r2, r3, r4, r5, _⟩ := HG1.out
  unfold put3 at HI1 HI2 HN5 HW5
  go_upto_region 4 with fail
  obtain ⟨w6, hw6⟩ : ∃ w6, ((w4.setCell ⟨w.heap.size, 0, none⟩ (.bool true)).setCell ⟨w.heap.size, 1, none⟩ (.slice A4 n4 c4)).setCell ⟨w.heap.size, 2, none⟩ (.int .i64 x) = w6 := ⟨_, rfl⟩
  rw [hw6] at HI1 HI2 HN5 HW5 ⊢
  clear hw6
  have HJ1 := HI1
  have HJ2 := HI2
  have HN6 := HN5
  have HW6 := HW5
  have HK1 := Lib.hid (HJ1.out.set0 (.bool false))
  have HK2 := Lib.hid (HJ2.out.away ⟨w.heap.size, 0, none⟩ (by simp) (.bool false))
  have HN7 := Lib.hid (HN6.out.write HJ1.out.1 (by simp) (.bool false))
  have HW7 := Lib.hid (HW6.out.setCell (p := ⟨w.heap.size, 0, none⟩) (Nat.le_refl _) (.bool false))
  have HL2 := Lib.hid (HK2.out.put (u0 := .bool false) (u1 := .slice A4 n4 c4) (u2 := .int .i64 x))
  have HN8 := Lib.hid (HN7.out.put3 HK2.out (by simp) (by simp) (by simp) (.bool false) (.slice A4 n4 c4) (.int .i64 x))
  have HW8 := Lib.hid (put3_below (g := w.heap.size + 1) (u0 := .bool false) (u1 := .slice A4 n4 c4) (u2 := .int .i64 x) HW7.out (by omega))
  clear r0 r1 r2 r3 r4 r5 HG1 HG2 HI1 HI2 HN4 HN5 HW5 HN6 HW6 HJ2 HN7 HW7 HN
  obtain ⟨q0, q1, q2, q3, q4, q5, _⟩ := HJ1.out
  obtain ⟨k0, k1, k2, k3, k4, k5, _⟩ := HK1.out
  obtain ⟨m0, m1, m2, m3, m4, m5, _⟩ := HK2.out
  have hp := HL2.out
  unfold put3 at hp HN8 HW8
  obtain ⟨e0, e1, e2, _⟩ := hp
  clear HJ1 HK1 HK2
  go_wp2
  exact bodyPost_ret (v := .tuple #[.agg #[.bool false, .slice A4 n4 c4, .int .i64 x], .int .i64 0]) (by simp [results, Tryz.results343, go_sem, e0, e1, e2]) rfl ⟨_, rfl, HN8.out, HW8.out⟩
set_option maxRecDepth 100000 in
set_option maxHeartbeats 1000000 in
theorem turned_neg (s : Value) (a : Nat) (x : Int) (w : World) (h : NatAt w s a) (ha : a % 2 = 1) (hl : blen a ≤ 524288) (hx : -1048576 ≤ x) (hx2 : x ≤ 1048576) :
    Calls Tryz.prog 462 #[.agg #[.bool true, s, .int .i64 x]] w fun e w' => ∃ s', e = .returned (.iface 233 (.agg #[.bool false, s', .int .i64 x])) ∧ NatAt w' s' a ∧ Below w.heap.size w w' := by
  obtain ⟨A, c, hs, _, _⟩ := id h
  have hA := below_alloc' w (.cells #[.bool true, s, .int .i64 x] 233)
  have HD := Lib.hid (dneg_neg s a x _ (h.below hA) ha hl hx hx2)
  have HA := Lib.hid hA
  subst hs
  obtain ⟨n, hn⟩ : ∃ n, (toL a).length = n := ⟨_, rfl⟩
  rw [hn] at HD HA ⊢
  clear hn hA h ha hl hx hx2
  go_enter Tryz.func462, Tryz.ntmps462
  go_wp2_with fail
  refine HD.out.mono ?_
  rintro e w3 ⟨s3, rfl, hn3, hb3⟩
  have HN3 := Lib.hid hn3
  have HW3 := Lib.hid (below_chain HA.out hb3)
  obtain ⟨A3, c3, rfl, _, _⟩ := hn3
  obtain ⟨n3, hn3⟩ : ∃ n, (toL a).length = n := ⟨_, rfl⟩
  rw [hn3] at HN3 ⊢
  have hb4 := below_alloc' w3 (.cells #[.bool false, .slice A3 n3 c3, .int .i64 x] 86)
  have HN4 := Lib.hid (HN3.out.below hb4)
  have HW4 := Lib.hid (below_chain HW3.out hb4)
  clear hb3 hb4 hn3 HD
  go_wp2
  exact bodyPost_ret (v := .iface 233 (.agg #[.bool false, .slice A3 n3 c3, .int .i64 x])) (by simp [results, Tryz.results462, go_sem]) rfl ⟨_, rfl, HN4.out, HW4.out⟩

set_option maxRecDepth 100000 in
set_option maxHeartbeats 1000000 in
theorem tell_pos (s : Value) (a : Nat) (x : Int) (w : World) (h : NatAt w s a) (ht : Tab64 w) (ha : a % 2 = 1) (hl : blen a ≤ 500000) (hx : -1048576 ≤ x) (hx2 : x ≤ 1048576) :
    Calls Tryz.prog 169 #[.int .i64 64, .iface 233 (.agg #[.bool false, s, .int .i64 x])] w fun e w' => e = .returned (.tuple #[.int .u64 ((near fmD false a x : Nat) : Int), .int .i64 0]) ∧ Below w.heap.size w w' := by
  obtain ⟨A, c, hs, _, _⟩ := id h
  have hA := below_alloc' w (.cells #[.bool false, s, .int .i64 x] 233)
  have HD := Lib.hid (nearest_walk_D false s a x _ (h.below hA) (ht.below hA) hl (fun e => by cases e) hx hx2 (fun _ => ha) (fun e => by omega))
  have HA := Lib.hid hA
  subst hs
  obtain ⟨n, hn⟩ : ∃ n, (toL a).length = n := ⟨_, rfl⟩
  rw [hn] at HD HA ⊢
  have ht0 : ∀ W : World, (Instr.typeAssert (.iface 233 (.agg #[.bool false, .slice A n c, .int .i64 x])) 217 239 true).run Tryz.prog W = .ok (.tuple #[.agg #[.bool false], .bool false]) W := fun _ => by kernel_rfl
  have ht1 : ∀ W : World, (Instr.typeAssert (.iface 233 (.agg #[.bool false, .slice A n c, .int .i64 x])) 217 241 true).run Tryz.prog W = .ok (.tuple #[.agg #[.bool false], .bool false]) W := fun _ => by kernel_rfl
  have ht2 : ∀ W : World, (Instr.typeAssert (.iface 233 (.agg #[.bool false, .slice A n c, .int .i64 x])) 217 233 true).run Tryz.prog W = .ok (.tuple #[.agg #[.bool false, .slice A n c, .int .i64 x], .bool true]) W := fun _ => by kernel_rfl
  obtain ⟨y, hy⟩ : ∃ y : Int, ((near fmD false a x : Nat) : Int) = y := ⟨_, rfl⟩
  rw [hy] at HD ⊢
  clear hy hn hA h ha hl hx hx2 ht
  go_enter Tryz.func169, Tryz.ntmps169
  go_wp2_with fail
  refine HD.out.mono ?_
  rintro e w3 ⟨rfl, hb3⟩
  have HW3 := Lib.hid (below_chain HA.out hb3)
  clear hb3
  go_wp2_with fail
  exact bodyPost_ret (v := .tuple #[.int .u64 y, .int .i64 0]) (by simp [results, Tryz.results169, go_sem]) rfl ⟨rfl, HW3.out⟩

end Go.Proofs.YtibjogbalmbeeaaGreatDoor

namespace Go.Proofs.YtibjogbalmbeeaaGreatDoor
open Go.RowKit

theorem with_sign {z : Nat} (hz : z < 9223372036854775808) : (bits BinOp.and IntKind.u64 ((9223372036854775808 + z : Nat) : Int) 9223372036854775808 != 0) = true := by
  have e : (9223372036854775808 + z) &&& 9223372036854775808 = 9223372036854775808 := by
    rw [show (9223372036854775808 : Nat) = 2 ^ 63 from rfl]
    apply Nat.eq_of_testBit_eq
    intro i
    rw [Nat.testBit_and, Nat.testBit_two_pow]
    by_cases h : 63 = i
    · subst h; rw [Nat.testBit_two_pow_add_eq, Nat.testBit_lt_two_pow hz]; rfl
    · rw [decide_eq_false h, Bool.and_false]
  have := bits_and_u64_nat (9223372036854775808 + z) 9223372036854775808 (by omega) (by decide)
  rw [e] at this
  rw [show (9223372036854775808 : Int) = ((9223372036854775808 : Nat) : Int) from rfl, this]
  rfl

set_option maxRecDepth 100000 in
set_option maxHeartbeats 1000000 in
theorem read_neg (z : Nat) (h0 : z ≠ 0) (hz : z < 9218868437227405312) (w : World) (ht : Tab64 w) :
    Calls Tryz.prog 187 #[.int .i64 64, .int .u64 ((9223372036854775808 + z : Nat) : Int)] w fun e w' => ∃ (m u : Nat) (s : Value), e = .returned (.tuple #[.iface 233 (.agg #[.bool true, s, .int .i64 (-1074 + (u : Int))]), .int .i64 0]) ∧ NatAt w' s m ∧ m % 2 = 1 ∧ m * 2 ^ u = vP fmD z ∧ u ≤ 2200 ∧ Below w.heap.size w w' := by
  have hzm : (9223372036854775808 + z) % 9223372036854775808 = z := by omega
  have hs := with_sign (z := z) (by omega)
  have HC := Lib.hid (classOf_D (9223372036854775808 + z) (by omega) w)
  have HV := Lib.hid (fun W (hW : Tab64 W) => value_D (9223372036854775808 + z) (by omega) (by omega) (by omega) W hW)
  rw [hzm, decide_eq_true (show 9223372036854775808 ≤ 9223372036854775808 + z by omega)] at HV
  rw [hzm] at HC
  have hcl : clsN 4503599627370496 9218868437227405312 z = 1 ∨ clsN 4503599627370496 9218868437227405312 z = 2 := by
    unfold clsN; rw [if_neg h0]
    split
    · exact .inl rfl
    · first | exact .inr rfl | (rw [if_pos hz]; exact .inr rfl)
  obtain ⟨c, hc⟩ : ∃ c, clsN 4503599627370496 9218868437227405312 z = c := ⟨_, rfl⟩
  rw [hc] at hcl HC
  have hc4 : ((c : Int) == 4) = false := by rw [beq_eq_false_iff_ne]; omega
  have hc3 : ((c : Int) == 3) = false := by rw [beq_eq_false_iff_ne]; omega
  have hc0 : ((c : Int) == 0) = false := by rw [beq_eq_false_iff_ne]; omega
  have HB := Lib.hid (fun W => softbit_walk W)
  have HT := Lib.hid ht
  obtain ⟨b, hb⟩ : ∃ b, 9223372036854775808 + z = b := ⟨_, rfl⟩
  rw [hb] at HC HV hs ⊢
  clear hcl hc hzm h0 hz ht hb
  go_enter Tryz.func187, Tryz.ntmps187
  go_wp2_with fail
  refine HC.out.mono ?_
  rintro e w1 ⟨rfl, h1⟩
  have H1 := Lib.hid h1
  have HV1 := Lib.hid (HV.out w1 (HT.out.below h1))
  clear h1
  go_wp2_with fail
  refine (HB.out _).mono ?_
  rintro e w2 ⟨rfl, hw⟩
  (have h0 := hw.symm); subst h0
  clear hw
  go_wp2_with fail
  refine HV1.out.mono ?_
  rintro e w3 ⟨m, u, s, rfl, hn, hm, hu, hul, hb⟩
  have HN3 := Lib.hid hn
  have HW3 := Lib.hid (below_chain H1.out hb)
  have HM := Lib.hid (And.intro hm (And.intro hu hul))
  obtain ⟨A3, c3, rfl, _, _⟩ := hn
  obtain ⟨n3, hn3⟩ : ∃ n, (toL m).length = n := ⟨_, rfl⟩
  rw [hn3] at HN3 ⊢
  have hb4 := below_alloc' w3 (.cells #[.bool true, .slice A3 n3 c3, .int .i64 (-1074 + (u : Int))] 86)
  have HN4 := Lib.hid (HN3.out.below hb4)
  have HW4 := Lib.hid (below_chain HW3.out hb4)
  clear hb hb4 hn3 hm hu hul HV1 HV
  go_wp2
  exact bodyPost_ret (v := .tuple #[.iface 233 (.agg #[.bool true, .slice A3 n3 c3, .int .i64 (-1074 + (u : Int))]), .int .i64 0]) (by simp [results, Tryz.results187, go_sem]) rfl ⟨m, u, _, rfl, HN4.out, HM.out.1, HM.out.2.1, HM.out.2.2, HW4.out⟩

set_option maxRecDepth 100000 in
set_option maxHeartbeats 1000000 in
theorem neg_neg (z : Nat) (h0 : z ≠ 0) (hz : z < 9218868437227405312) (w : World) (ht : Tab64 w) :
    Calls Tryz.prog 180 #[.int .i64 64, .int .u64 ((9223372036854775808 + z : Nat) : Int)] w fun e w' => e = .returned (.tuple #[.int .u64 (z : Int), .int .i64 0]) ∧ Below w.heap.size w w' := by
  have HR := Lib.hid (read_neg z h0 hz w ht)
  have HT := Lib.hid ht
  have HZ := Lib.hid (show z ≤ fmD.inf by rw [infD]; omega)
  obtain ⟨y, hy⟩ : ∃ y : Int, (z : Int) = y := ⟨_, rfl⟩
  obtain ⟨b, hb⟩ : ∃ b, 9223372036854775808 + z = b := ⟨_, rfl⟩
  rw [hb] at HR ⊢
  rw [hy]
  have HY := Lib.hid hy
  clear hy h0 hz ht hb
  go_enter Tryz.func180, Tryz.ntmps180
  go_wp2_with fail
  refine HR.out.mono ?_
  rintro e w1 ⟨m, u, s, rfl, hn, hm, hu, hul, h1⟩
  obtain ⟨e1, e2⟩ := near_back hm hu HZ.out false
  have HU := Lib.hid (turned_neg s m (-1074 + (u : Int)) w1 hn hm (by omega) (by omega) (by omega))
  have H1 := Lib.hid h1
  have HTl := Lib.hid (fun W s' (hW : NatAt W s' m) (hT : Tab64 W) => tell_pos s' m (-1074 + (u : Int)) W hW hT hm (by omega) (by omega) (by omega))
  rw [e1, show sgn fmD false z = z from rfl, HY.out] at HTl
  obtain ⟨A, c, rfl, _, _⟩ := hn
  obtain ⟨n, hn⟩ : ∃ n, (toL m).length = n := ⟨_, rfl⟩
  rw [hn] at HU ⊢
  clear h1 e1 e2 hm hu hul hn
  go_wp2_with fail
  refine HU.out.mono ?_
  rintro e w2 ⟨s', rfl, hn2, h2⟩
  have H2 := Lib.hid (below_chain H1.out h2)
  have HTl2 := Lib.hid (HTl.out w2 s' hn2 (HT.out.below H2.out))
  obtain ⟨A2, c2, rfl, _, _⟩ := hn2
  obtain ⟨n2, hn2⟩ : ∃ n, (toL m).length = n := ⟨_, rfl⟩
  rw [hn2] at HTl2 ⊢
  clear h2 hn2 HTl HU
  go_wp2_with fail
  refine HTl2.out.mono ?_
  rintro e w3 ⟨rfl, h3⟩
  have H3 := Lib.hid (below_chain H2.out h3)
  clear h3
  go_wp2_with fail
  exact bodyPost_ret (v := .tuple #[.int .u64 y, .int .i64 0]) (by simp [results, Tryz.results180, go_sem]) rfl ⟨rfl, H3.out⟩


set_option maxRecDepth 100000 in
theorem below_num (neg : Bool) (s : Value) (a : Nat) (x : Int) (w : World) (h : NatAt w s a) :
    Calls Tryz.prog 261 #[.agg #[.bool neg, s, .int .i64 x]] w fun e w' => e = .returned (.bool neg) ∧ Below w.heap.size w w' := by
  obtain ⟨A, c, rfl, _, _⟩ := h
  generalize (toL a).length = n
  have hb := below_alloc' w (.cells #[.bool neg, .slice A n c, .int .i64 x] 233)
  go_enter Tryz.func261, Tryz.ntmps261
  go_wp2
  exact bodyPost_ret (v := .bool neg) (by simp [results, Tryz.results261, go_sem]) rfl ⟨rfl, hb⟩

set_option maxRecDepth 100000 in
set_option maxHeartbeats 1000000 in
theorem abs_pos (z : Nat) (h0 : z ≠ 0) (hz : z < 9218868437227405312) (w : World) (ht : Tab64 w) :
    Calls Tryz.prog 245 #[.int .i64 64, .int .u64 (z : Int)] w fun e w' => e = .returned (.tuple #[.int .u64 (z : Int), .int .i64 0]) ∧ Below w.heap.size w w' := by
  have HR := Lib.hid (read_num z h0 hz w ht)
  have HT := Lib.hid ht
  have HZ := Lib.hid (show z ≤ fmD.inf by rw [infD]; omega)
  obtain ⟨y, hy⟩ : ∃ y : Int, (z : Int) = y := ⟨_, rfl⟩
  rw [hy] at HR ⊢
  have HY := Lib.hid hy
  clear hy h0 hz ht
  go_enter Tryz.func245, Tryz.ntmps245
  go_wp2_with fail
  refine HR.out.mono ?_
  rintro e w1 ⟨m, u, s, rfl, hn, hm, hu, hul, h1⟩
  obtain ⟨e1, e2⟩ := near_back hm hu HZ.out false
  have HU := Lib.hid (below_num false s m (-1074 + (u : Int)) w1 hn)
  have HN := Lib.hid hn
  have H1 := Lib.hid h1
  have HTl := Lib.hid (fun W (hW : NatAt W s m) (hT : Tab64 W) => tell_pos s m (-1074 + (u : Int)) W hW hT hm (by omega) (by omega) (by omega))
  rw [e1, show sgn fmD false z = z from rfl, HY.out] at HTl
  obtain ⟨A, c, rfl, _, _⟩ := hn
  obtain ⟨n, hn⟩ : ∃ n, (toL m).length = n := ⟨_, rfl⟩
  rw [hn] at HU HTl HN ⊢
  clear h1 e1 e2 hm hu hul hn
  go_wp2_with fail
  refine HU.out.mono ?_
  rintro e w2 ⟨rfl, h2⟩
  have H2 := Lib.hid (below_chain H1.out h2)
  have HTl2 := Lib.hid (HTl.out w2 (HN.out.below h2) (HT.out.below H2.out))
  clear h2 HTl HU
  go_wp2_with fail
  refine HTl2.out.mono ?_
  rintro e w3 ⟨rfl, h3⟩
  have H3 := Lib.hid (below_chain H2.out h3)
  clear h3
  go_wp2_with fail
  exact bodyPost_ret (v := .tuple #[.int .u64 y, .int .i64 0]) (by simp [results, Tryz.results245, go_sem]) rfl ⟨rfl, H3.out⟩
end Go.Proofs.YtibjogbalmbeeaaGreatDoor
