/- Walks of binary: number, Value, Mid (printed by gen_val.py). -/
import Derived.Test.YtibjogbalmbeeaaGreatDoorU17
import Derived.Test.YtibjogbalmbeeaaGreatDoorU13

namespace Go.Proofs.YtibjogbalmbeeaaGreatDoor
open Go.RowKit

/-- The world behind a dyadic that was stored. -/
def put3 (W : World) (g : Nat) (u0 u1 u2 : Value) : World := ((W.setCell ⟨g, 0, none⟩ u0).setCell ⟨g, 1, none⟩ u1).setCell ⟨g, 2, none⟩ u2
theorem Box3.put {W : World} {g : Nat} {x0 x1 x2 u0 u1 u2 : Value} (h : Box3 W g x0 x1 x2) : Box3 (put3 W g u0 u1 u2) g u0 u1 u2 := by
  obtain ⟨h0, h1, h2, f0, f1, f2, hl⟩ := h
  unfold put3
  refine ⟨?_, ?_, ?_, by simpa using f0, by simpa using f1, by simpa using f2, by simpa using hl⟩
  · rw [cell_other (by simp), cell_other (by simp)]; exact World.cell?_setCell_same' _ _ _ (by rw [h0]; rfl)
  · rw [cell_other (by simp)]; exact World.cell?_setCell_same' _ _ _ (by rw [cell_other (by simp), h1]; rfl)
  · exact World.cell?_setCell_same' _ _ _ (by rw [cell_other (by simp), cell_other (by simp), h2]; rfl)
theorem NatAt.put3 {W : World} {v x0 x1 x2 : Value} {a g : Nat} (h : NatAt W v a) (hr : Box3 W g x0 x1 x2) (n0 : ∀ x, x0 ≠ .int .u64 x) (n1 : ∀ x, x1 ≠ .int .u64 x) (n2 : ∀ x, x2 ≠ .int .u64 x) (u0 u1 u2 : Value) : NatAt (put3 W g u0 u1 u2) v a := by
  obtain ⟨h0, h1, h2, _⟩ := hr
  exact ((h.write h0 n0 u0).write (by rw [cell_other (by simp)]; exact h1) n1 u1).write (by rw [cell_other (by simp), cell_other (by simp)]; exact h2) n2 u2
theorem put3_below {B : Nat} {w W : World} {g : Nat} {u0 u1 u2 : Value} (h : Below B w W) (hg : B ≤ g) : Below B w (put3 W g u0 u1 u2) := ((h.setCell (p := ⟨g, 0, none⟩) hg _).setCell (p := ⟨g, 1, none⟩) hg _).setCell (p := ⟨g, 2, none⟩) hg _

set_option maxRecDepth 100000 in
theorem number_bin (neg : Bool) (man : Nat) (x : Int) (w : World) (ht : Tab64 w) (hm : man ≠ 0) (hml : man < W64) (hx1 : -1500 ≤ x) (hx2 : x ≤ 1500) :
    Calls Tryz.prog 73 #[.bool neg, .int .u64 (man : Int), .int .i64 x] w fun e w' => ∃ s, e = .returned (.tuple #[.agg #[.bool neg, s, .int .i64 (x + tz man)], .int .i64 0]) ∧ NatAt w' s (man / 2 ^ tz man) ∧ Below w.heap.size w w' := by
  have hbl : blen man ≤ 64 := by rw [blen_le, ← W64_eq]; exact hml
  have htz := tz_le hm
  have hmb : ((man : Int) != 0) = true := by rw [bne_iff_ne]; omega
  have hW0 := below_alloc' w (.cells #[.bool false, .slice none 0 0, .int .i64 0] 86)
  have hR : Box3 (w.alloc (.cells #[.bool false, .slice none 0 0, .int .i64 0] 86)) w.heap.size (.bool false) (.slice none 0 0) (.int .i64 0) := ⟨by simp, by simp, by simp, by simp, by simp, by simp, by simp⟩
  have HR := Lib.hid hR
  have HW0 := Lib.hid hW0
  have HT := Lib.hid (ht.below hW0)
  have HM := Lib.hid (show man ≠ 0 ∧ man < W64 ∧ blen man ≤ 64 ∧ tz man < 64 from ⟨hm, hml, hbl, by omega⟩)
  have HX := Lib.hid (show -1500 ≤ x ∧ x ≤ 1500 from ⟨hx1, hx2⟩)
  clear hW0 hR ht hm hml hbl htz hx1 hx2
  cases neg
  all_goals
    go_enter Tryz.func73, Tryz.ntmps73
    go_wp2_with fail
    refine (word_walk man _ HM.out.2.1).mono ?_
    rintro e w1 ⟨v1, rfl, hn1, hb1⟩
    have HN1 := Lib.hid hn1
    have HR1 := Lib.hid (HR.out.below hb1)
    have HT1 := Lib.hid (HT.out.below hb1)
    have HW1 := Lib.hid (below_chain HW0.out hb1)
    obtain ⟨A1, c1, rfl, hc1, hr1⟩ := hn1
    clear hc1 hr1 hb1 HR HT HW0
    go_wp2_with fail
    refine (make_walk _ _ man x w1 HN1.out HT1.out (by have := HM.out; omega) (fun _ => HM.out.1) (by have := HX.out; omega) (by have := HX.out; omega) (fun _ => by have := HX.out; omega) (fun _ => by have := HX.out; have := HM.out; omega)).mono ?_
    rintro e w2 ⟨s2, rfl, hn2, hb2⟩
    rw [show dexp man x = x + tz man by unfold dexp; rw [if_neg HM.out.1]]
    have HN2 := Lib.hid hn2
    have HR2 := Lib.hid (HR1.out.below hb2)
    have HW2 := Lib.hid (below_chain HW1.out hb2)
    obtain ⟨A2, c2, rfl, hc2, hr2⟩ := hn2
    obtain ⟨n2, hn2⟩ : ∃ n, (toL (man / 2 ^ tz man)).length = n := ⟨_, rfl⟩
    rw [hn2] at HN2 ⊢
    obtain ⟨r0, r1, r2, r3, r4, r5, r6⟩ := HR2.out
    clear hc2 hr2 hb2 HR1 HW1 HT1 hn2 HN1
    go_wp2
    first
    | (have hp := HR2.out.put (u0 := .bool false) (u1 := .slice A2 n2 c2) (u2 := .int .i64 (x + tz man))
       have hn := HN2.out.put3 HR2.out (by simp) (by simp) (by simp) (.bool false) (.slice A2 n2 c2) (.int .i64 (x + tz man))
       have hb := put3_below (u0 := .bool false) (u1 := .slice A2 n2 c2) (u2 := .int .i64 (x + tz man)) HW2.out (Nat.le_refl _)
       unfold put3 at hp hn hb
       obtain ⟨e0, e1, e2, _⟩ := hp
       exact bodyPost_ret (v := .tuple #[.agg #[.bool false, .slice A2 n2 c2, .int .i64 (x + tz man)], .int .i64 0]) (by simp [results, Tryz.results73, go_sem, e0, e1, e2]) rfl ⟨_, rfl, hn, hb⟩)
    | (have hp := HR2.out.put (u0 := .bool true) (u1 := .slice A2 n2 c2) (u2 := .int .i64 (x + tz man))
       have hn := HN2.out.put3 HR2.out (by simp) (by simp) (by simp) (.bool true) (.slice A2 n2 c2) (.int .i64 (x + tz man))
       have hb := put3_below (u0 := .bool true) (u1 := .slice A2 n2 c2) (u2 := .int .i64 (x + tz man)) HW2.out (Nat.le_refl _)
       unfold put3 at hp hn hb
       obtain ⟨e0, e1, e2, _⟩ := hp
       exact bodyPost_ret (v := .tuple #[.agg #[.bool true, .slice A2 n2 c2, .int .i64 (x + tz man)], .int .i64 0]) (by simp [results, Tryz.results73, go_sem, e0, e1, e2]) rfl ⟨_, rfl, hn, hb⟩)

theorem pt_S (z : Nat) : ptM 8388608 z = mnt fmS z ∧ ptE 8388608 (-149) z = -149 + (mex fmS z : Int) := by
  unfold ptM ptE mnt mex
  rw [show 2 ^ (fmS.P - 1) = 8388608 from rfl]
  by_cases h : z / 8388608 = 0
  · rw [if_pos h, if_pos h, if_pos h]; omega
  · rw [if_neg h, if_neg h, if_neg h]; omega
theorem mex_S (z : Nat) (h : z < 2139095040) : mex fmS z ≤ 254 ∧ mnt fmS z < 2 ^ 24 := by
  refine ⟨?_, mnt_lt (by decide) z⟩
  unfold mex
  rw [show 2 ^ (fmS.P - 1) = 8388608 from rfl]
  split <;> omega

set_option maxRecDepth 100000 in
set_option maxHeartbeats 1000000 in
theorem value_S (b : Nat) (hb : b < 4294967296) (hfin : b % 2147483648 < 2139095040) (h0 : b % 2147483648 ≠ 0) (w : World) (ht : Tab64 w) :
    Calls Tryz.prog 34 #[.int .i64 32, .int .u64 (b : Int)] w fun e w' => ∃ (m u : Nat) (s : Value), e = .returned (.tuple #[.agg #[.bool (decide (2147483648 ≤ b)), s, .int .i64 (-149 + (u : Int))], .int .i64 0]) ∧ NatAt w' s m ∧ m % 2 = 1 ∧ m * 2 ^ u = vP fmS (b % 2147483648) ∧ u ≤ 400 ∧ Below w.heap.size w w' := by
  obtain ⟨neg, hneg⟩ : ∃ neg, decide (2147483648 ≤ b) = neg := ⟨_, rfl⟩
  obtain ⟨z, hz⟩ : ∃ z, b % 2147483648 = z := ⟨_, rfl⟩
  have HN := Lib.hid hneg
  have HZ := Lib.hid hz
  have HB := Lib.hid (show z < 2147483648 by rw [← hz]; exact Nat.mod_lt _ (by omega))
  have HFin := Lib.hid (finite_S b hb hfin)
  rw [hneg, hz] at HFin
  rw [hneg, hz]
  rw [hz] at hfin h0
  obtain ⟨e1, e2⟩ := pt_S z
  obtain ⟨m1, m2⟩ := mex_S z hfin
  have hv := vP_mnt fmS z
  have hmp := mnt_pos (f := fmS) h0
  have HParts := Lib.hid (parts_S z HB.out)
  rw [e1, e2] at HParts
  obtain ⟨man, hman⟩ : ∃ man, mnt fmS z = man := ⟨_, rfl⟩
  obtain ⟨ex, hex⟩ : ∃ ex, mex fmS z = ex := ⟨_, rfl⟩
  rw [hman, hex] at HParts hv
  rw [hex] at m1
  rw [hman] at m2 hmp
  obtain ⟨o1, o2⟩ := odd_split hmp
  have htz := tz_le hmp
  have hbl : blen man ≤ 24 := blen_le.2 m2
  have HV := Lib.hid (show man / 2 ^ tz man * 2 ^ (ex + tz man) = vP fmS z by rw [hv, Nat.add_comm, Nat.pow_add, ← Nat.mul_assoc, o2])
  have HO := Lib.hid o1
  have HU := Lib.hid (show ex + tz man ≤ 400 by omega)
  have HE := Lib.hid (show (-149 + (ex : Int)) + (tz man : Int) = -149 + ((ex + tz man : Nat) : Int) by omega)
  have HNum := Lib.hid (fun W hT => number_bin neg man (-149 + (ex : Int)) W hT hmp (by rw [W64_num]; omega) (by omega) (by omega))
  have hW0 := below_alloc' w (.cells #[.bool false, .slice none 0 0, .int .i64 0] 86)
  have hR : Box3 (w.alloc (.cells #[.bool false, .slice none 0 0, .int .i64 0] 86)) w.heap.size (.bool false) (.slice none 0 0) (.int .i64 0) := ⟨by simp, by simp, by simp, by simp, by simp, by simp, by simp⟩
  have HR := Lib.hid hR
  have HW0 := Lib.hid hW0
  have HT := Lib.hid (ht.below hW0)
  clear hneg hz hb hfin h0 e1 e2 m1 m2 hv hmp hman hex o1 o2 htz hbl hW0 hR ht HN HZ HB
  go_enter Tryz.func34, Tryz.ntmps34
  go_wp2_with fail
  refine (HFin.out _).mono ?_
  rintro e w1 ⟨rfl, hb1⟩
  have hb2 := below_alloc' w1 (.cells #[.int .i64 32, .int .i64 24, .int .i64 (-149), .int .u64 2143289345] 78)
  have HR2 := Lib.hid ((HR.out.below hb1).below hb2)
  have HT2 := Lib.hid ((HT.out.below hb1).below hb2)
  have HW2 := Lib.hid (below_chain (below_chain HW0.out hb1) hb2)
  clear hb1 hb2 HR HT HW0 HFin
  go_wp2_with fail
  refine (HParts.out _).mono ?_
  rintro e w3 ⟨rfl, hb3⟩
  have HR3 := Lib.hid (HR2.out.below hb3)
  have HT3 := Lib.hid (HT2.out.below hb3)
  have HW3 := Lib.hid (below_chain HW2.out hb3)
  clear hb3 HR2 HT2 HW2 HParts
  go_wp2_with fail
  refine (HNum.out _ HT3.out).mono ?_
  rintro e w4 ⟨s4, rfl, hn4, hb4⟩
  rw [HE.out]
  have HN4 := Lib.hid hn4
  have HR4 := Lib.hid (HR3.out.below hb4)
  have HW4 := Lib.hid (below_chain HW3.out hb4)
  obtain ⟨A4, c4, rfl, hc4, hr4⟩ := hn4
  obtain ⟨u, hu⟩ : ∃ u, ex + tz man = u := ⟨_, rfl⟩
  obtain ⟨m, hm⟩ : ∃ m, man / 2 ^ tz man = m := ⟨_, rfl⟩
  rw [hu] at HV HU ⊢
  rw [hm] at HV HO HN4 ⊢
  obtain ⟨n4, hn4⟩ : ∃ n, (toL m).length = n := ⟨_, rfl⟩
  rw [hn4] at HN4 ⊢
  obtain ⟨r0, r1, r2, r3, r4, r5, r6⟩ := HR4.out
  clear hc4 hr4 hb4 HR3 HW3 HT3 hn4 hu hm HE HNum
  have hp := HR4.out.put (u0 := .bool neg) (u1 := .slice A4 n4 c4) (u2 := .int .i64 (-149 + (u : Int)))
  have hn := HN4.out.put3 HR4.out (by simp) (by simp) (by simp) (.bool neg) (.slice A4 n4 c4) (.int .i64 (-149 + (u : Int)))
  have hb := put3_below (u0 := .bool neg) (u1 := .slice A4 n4 c4) (u2 := .int .i64 (-149 + (u : Int))) HW4.out (Nat.le_refl _)
  unfold put3 at hp hn hb
  obtain ⟨e0, e1, e2, _⟩ := hp
  have HNn := Lib.hid hn
  have HBn := Lib.hid hb
  clear hn hb
  go_wp2
  exact bodyPost_ret (v := .tuple #[.agg #[.bool neg, .slice A4 n4 c4, .int .i64 (-149 + (u : Int))], .int .i64 0]) (by simp [results, Tryz.results34, go_sem, e0, e1, e2]) rfl ⟨m, u, _, rfl, HNn.out, HO.out, HV.out, HU.out, HBn.out⟩

set_option maxRecDepth 100000 in
set_option maxHeartbeats 1000000 in
theorem mid_S (z : Nat) (hfin : z < 2139095040) (w : World) (ht : Tab64 w) :
    Calls Tryz.prog 74 #[.int .i64 32, .int .u64 (z : Int)] w fun e w' => ∃ (m u : Nat) (s : Value), e = .returned (.tuple #[.agg #[.bool false, s, .int .i64 (-150 + (u : Int))], .int .i64 0]) ∧ NatAt w' s m ∧ m % 2 = 1 ∧ m * 2 ^ u = md fmS z ∧ u ≤ 400 ∧ Below w.heap.size w w' := by
  have hzm : z % 2147483648 = z := Nat.mod_eq_of_lt (by omega)
  have HFin := Lib.hid (finite_S z (by omega) (by rw [hzm]; exact hfin))
  rw [hzm, show decide (2147483648 ≤ z) = false from decide_eq_false (by omega)] at HFin
  obtain ⟨e1, e2⟩ := pt_S z
  obtain ⟨m1, m2⟩ := mex_S z hfin
  have hv := md_mnt fmS z
  have HParts := Lib.hid (parts_S z (by omega))
  rw [e1, e2] at HParts
  obtain ⟨man, hman⟩ : ∃ man, mnt fmS z = man := ⟨_, rfl⟩
  obtain ⟨ex, hex⟩ : ∃ ex, mex fmS z = ex := ⟨_, rfl⟩
  rw [hman, hex] at HParts hv
  rw [hex] at m1
  rw [hman] at m2
  have p1 : IntKind.u64.wrap (2 * (man : Int)) = 2 * (man : Int) := by rw [IntKind.wrap_u64]; omega
  have p2 : IntKind.u64.wrap (2 * (man : Int) + 1) = ((2 * man + 1 : Nat) : Int) := by rw [IntKind.wrap_u64]; omega
  have p3 : IntKind.i64.wrap (-149 + (ex : Int) - 1) = -150 + (ex : Int) := by rw [IntKind.wrap_i64]; omega
  have htz : tz (2 * man + 1) = 0 := tz_odd (by omega)
  have HNum := Lib.hid (fun W hT => number_bin false (2 * man + 1) (-150 + (ex : Int)) W hT (by omega) (by rw [W64_num]; omega) (by omega) (by omega))
  simp only [htz, Nat.pow_zero, Nat.div_one] at HNum
  have HV := Lib.hid (show (2 * man + 1) * 2 ^ ex = md fmS z from hv.symm)
  have HU := Lib.hid (show ex ≤ 400 by omega)
  have HE := Lib.hid (show (-150 + (ex : Int)) + ((0 : Nat) : Int) = -150 + (ex : Int) by omega)
  have hW0 := below_alloc' w (.cells #[.bool false, .slice none 0 0, .int .i64 0] 86)
  have hR : Box3 (w.alloc (.cells #[.bool false, .slice none 0 0, .int .i64 0] 86)) w.heap.size (.bool false) (.slice none 0 0) (.int .i64 0) := ⟨by simp, by simp, by simp, by simp, by simp, by simp, by simp⟩
  have HR := Lib.hid hR
  have HW0 := Lib.hid hW0
  have HT := Lib.hid (ht.below hW0)
  clear hzm hfin e1 e2 m1 m2 hv hman hex htz hW0 hR ht
  go_enter Tryz.func74, Tryz.ntmps74
  go_wp2_with fail
  refine (HFin.out _).mono ?_
  rintro e w1 ⟨rfl, hb1⟩
  have hb2 := below_alloc' w1 (.cells #[.int .i64 32, .int .i64 24, .int .i64 (-149), .int .u64 2143289345] 78)
  have HR2 := Lib.hid ((HR.out.below hb1).below hb2)
  have HT2 := Lib.hid ((HT.out.below hb1).below hb2)
  have HW2 := Lib.hid (below_chain (below_chain HW0.out hb1) hb2)
  clear hb1 hb2 HR HT HW0 HFin
  go_wp2_with fail
  refine (HParts.out _).mono ?_
  rintro e w3 ⟨rfl, hb3⟩
  have HR3 := Lib.hid (HR2.out.below hb3)
  have HT3 := Lib.hid (HT2.out.below hb3)
  have HW3 := Lib.hid (below_chain HW2.out hb3)
  clear hb3 HR2 HT2 HW2 HParts
  go_wp2_with fail
  refine (HNum.out _ HT3.out).mono ?_
  rintro e w4 ⟨s4, rfl, hn4, hb4⟩
  rw [HE.out]
  have HN4 := Lib.hid hn4
  have HR4 := Lib.hid (HR3.out.below hb4)
  have HW4 := Lib.hid (below_chain HW3.out hb4)
  obtain ⟨A4, c4, rfl, hc4, hr4⟩ := hn4
  have HO := Lib.hid (show (2 * man + 1) % 2 = 1 by omega)
  obtain ⟨m, hm⟩ : ∃ m, 2 * man + 1 = m := ⟨_, rfl⟩
  rw [hm] at HV HO HN4 ⊢
  obtain ⟨n4, hn4⟩ : ∃ n, (toL m).length = n := ⟨_, rfl⟩
  rw [hn4] at HN4 ⊢
  obtain ⟨r0, r1, r2, r3, r4, r5, r6⟩ := HR4.out
  clear hc4 hr4 hb4 HR3 HW3 HT3 hn4 hm HE HNum p1 p2 p3
  have hp := HR4.out.put (u0 := .bool false) (u1 := .slice A4 n4 c4) (u2 := .int .i64 (-150 + (ex : Int)))
  have hn := HN4.out.put3 HR4.out (by simp) (by simp) (by simp) (.bool false) (.slice A4 n4 c4) (.int .i64 (-150 + (ex : Int)))
  have hb := put3_below (u0 := .bool false) (u1 := .slice A4 n4 c4) (u2 := .int .i64 (-150 + (ex : Int))) HW4.out (Nat.le_refl _)
  unfold put3 at hp hn hb
  obtain ⟨e0, e1, e2, _⟩ := hp
  have HNn := Lib.hid hn
  have HBn := Lib.hid hb
  clear hn hb
  go_wp2
  exact bodyPost_ret (v := .tuple #[.agg #[.bool false, .slice A4 n4 c4, .int .i64 (-150 + (ex : Int))], .int .i64 0]) (by simp [results, Tryz.results74, go_sem, e0, e1, e2]) rfl ⟨m, ex, _, rfl, HNn.out, HO.out, HV.out, HU.out, HBn.out⟩

theorem pt_D (z : Nat) : ptM 4503599627370496 z = mnt fmD z ∧ ptE 4503599627370496 (-1074) z = -1074 + (mex fmD z : Int) := by
  unfold ptM ptE mnt mex
  rw [show 2 ^ (fmD.P - 1) = 4503599627370496 from rfl]
  by_cases h : z / 4503599627370496 = 0
  · rw [if_pos h, if_pos h, if_pos h]; omega
  · rw [if_neg h, if_neg h, if_neg h]; omega
theorem mex_D (z : Nat) (h : z < 9218868437227405312) : mex fmD z ≤ 2046 ∧ mnt fmD z < 2 ^ 53 := by
  refine ⟨?_, mnt_lt (by decide) z⟩
  unfold mex
  rw [show 2 ^ (fmD.P - 1) = 4503599627370496 from rfl]
  split <;> omega

set_option maxRecDepth 100000 in
set_option maxHeartbeats 1000000 in
theorem value_D (b : Nat) (hb : b < 18446744073709551616) (hfin : b % 9223372036854775808 < 9218868437227405312) (h0 : b % 9223372036854775808 ≠ 0) (w : World) (ht : Tab64 w) :
    Calls Tryz.prog 34 #[.int .i64 64, .int .u64 (b : Int)] w fun e w' => ∃ (m u : Nat) (s : Value), e = .returned (.tuple #[.agg #[.bool (decide (9223372036854775808 ≤ b)), s, .int .i64 (-1074 + (u : Int))], .int .i64 0]) ∧ NatAt w' s m ∧ m % 2 = 1 ∧ m * 2 ^ u = vP fmD (b % 9223372036854775808) ∧ u ≤ 2200 ∧ Below w.heap.size w w' := by
  obtain ⟨neg, hneg⟩ : ∃ neg, decide (9223372036854775808 ≤ b) = neg := ⟨_, rfl⟩
  obtain ⟨z, hz⟩ : ∃ z, b % 9223372036854775808 = z := ⟨_, rfl⟩
  have HN := Lib.hid hneg
  have HZ := Lib.hid hz
  have HB := Lib.hid (show z < 9223372036854775808 by rw [← hz]; exact Nat.mod_lt _ (by omega))
  have HFin := Lib.hid (finite_D b hb hfin)
  rw [hneg, hz] at HFin
  rw [hneg, hz]
  rw [hz] at hfin h0
  obtain ⟨e1, e2⟩ := pt_D z
  obtain ⟨m1, m2⟩ := mex_D z hfin
  have hv := vP_mnt fmD z
  have hmp := mnt_pos (f := fmD) h0
  have HParts := Lib.hid (parts_D z HB.out)
  rw [e1, e2] at HParts
  obtain ⟨man, hman⟩ : ∃ man, mnt fmD z = man := ⟨_, rfl⟩
  obtain ⟨ex, hex⟩ : ∃ ex, mex fmD z = ex := ⟨_, rfl⟩
  rw [hman, hex] at HParts hv
  rw [hex] at m1
  rw [hman] at m2 hmp
  obtain ⟨o1, o2⟩ := odd_split hmp
  have htz := tz_le hmp
  have hbl : blen man ≤ 53 := blen_le.2 m2
  have HV := Lib.hid (show man / 2 ^ tz man * 2 ^ (ex + tz man) = vP fmD z by rw [hv, Nat.add_comm, Nat.pow_add, ← Nat.mul_assoc, o2])
  have HO := Lib.hid o1
  have HU := Lib.hid (show ex + tz man ≤ 2200 by omega)
  have HE := Lib.hid (show (-1074 + (ex : Int)) + (tz man : Int) = -1074 + ((ex + tz man : Nat) : Int) by omega)
  have HNum := Lib.hid (fun W hT => number_bin neg man (-1074 + (ex : Int)) W hT hmp (by rw [W64_num]; omega) (by omega) (by omega))
  have hW0 := below_alloc' w (.cells #[.bool false, .slice none 0 0, .int .i64 0] 86)
  have hR : Box3 (w.alloc (.cells #[.bool false, .slice none 0 0, .int .i64 0] 86)) w.heap.size (.bool false) (.slice none 0 0) (.int .i64 0) := ⟨by simp, by simp, by simp, by simp, by simp, by simp, by simp⟩
  have HR := Lib.hid hR
  have HW0 := Lib.hid hW0
  have HT := Lib.hid (ht.below hW0)
  clear hneg hz hb hfin h0 e1 e2 m1 m2 hv hmp hman hex o1 o2 htz hbl hW0 hR ht HN HZ HB
  go_enter Tryz.func34, Tryz.ntmps34
  go_wp2_with fail
  refine (HFin.out _).mono ?_
  rintro e w1 ⟨rfl, hb1⟩
  have hb2 := below_alloc' w1 (.cells #[.int .i64 64, .int .i64 53, .int .i64 (-1074), .int .u64 9221120237041090561] 78)
  have HR2 := Lib.hid ((HR.out.below hb1).below hb2)
  have HT2 := Lib.hid ((HT.out.below hb1).below hb2)
  have HW2 := Lib.hid (below_chain (below_chain HW0.out hb1) hb2)
  clear hb1 hb2 HR HT HW0 HFin
  go_wp2_with fail
  refine (HParts.out _).mono ?_
  rintro e w3 ⟨rfl, hb3⟩
  have HR3 := Lib.hid (HR2.out.below hb3)
  have HT3 := Lib.hid (HT2.out.below hb3)
  have HW3 := Lib.hid (below_chain HW2.out hb3)
  clear hb3 HR2 HT2 HW2 HParts
  go_wp2_with fail
  refine (HNum.out _ HT3.out).mono ?_
  rintro e w4 ⟨s4, rfl, hn4, hb4⟩
  rw [HE.out]
  have HN4 := Lib.hid hn4
  have HR4 := Lib.hid (HR3.out.below hb4)
  have HW4 := Lib.hid (below_chain HW3.out hb4)
  obtain ⟨A4, c4, rfl, hc4, hr4⟩ := hn4
  obtain ⟨u, hu⟩ : ∃ u, ex + tz man = u := ⟨_, rfl⟩
  obtain ⟨m, hm⟩ : ∃ m, man / 2 ^ tz man = m := ⟨_, rfl⟩
  rw [hu] at HV HU ⊢
  rw [hm] at HV HO HN4 ⊢
  obtain ⟨n4, hn4⟩ : ∃ n, (toL m).length = n := ⟨_, rfl⟩
  rw [hn4] at HN4 ⊢
  obtain ⟨r0, r1, r2, r3, r4, r5, r6⟩ := HR4.out
  clear hc4 hr4 hb4 HR3 HW3 HT3 hn4 hu hm HE HNum
  have hp := HR4.out.put (u0 := .bool neg) (u1 := .slice A4 n4 c4) (u2 := .int .i64 (-1074 + (u : Int)))
  have hn := HN4.out.put3 HR4.out (by simp) (by simp) (by simp) (.bool neg) (.slice A4 n4 c4) (.int .i64 (-1074 + (u : Int)))
  have hb := put3_below (u0 := .bool neg) (u1 := .slice A4 n4 c4) (u2 := .int .i64 (-1074 + (u : Int))) HW4.out (Nat.le_refl _)
  unfold put3 at hp hn hb
  obtain ⟨e0, e1, e2, _⟩ := hp
  have HNn := Lib.hid hn
  have HBn := Lib.hid hb
  clear hn hb
  go_wp2
  exact bodyPost_ret (v := .tuple #[.agg #[.bool neg, .slice A4 n4 c4, .int .i64 (-1074 + (u : Int))], .int .i64 0]) (by simp [results, Tryz.results34, go_sem, e0, e1, e2]) rfl ⟨m, u, _, rfl, HNn.out, HO.out, HV.out, HU.out, HBn.out⟩

set_option maxRecDepth 100000 in
set_option maxHeartbeats 1000000 in
theorem mid_D (z : Nat) (hfin : z < 9218868437227405312) (w : World) (ht : Tab64 w) :
    Calls Tryz.prog 74 #[.int .i64 64, .int .u64 (z : Int)] w fun e w' => ∃ (m u : Nat) (s : Value), e = .returned (.tuple #[.agg #[.bool false, s, .int .i64 (-1075 + (u : Int))], .int .i64 0]) ∧ NatAt w' s m ∧ m % 2 = 1 ∧ m * 2 ^ u = md fmD z ∧ u ≤ 2200 ∧ Below w.heap.size w w' := by
  have hzm : z % 9223372036854775808 = z := Nat.mod_eq_of_lt (by omega)
  have HFin := Lib.hid (finite_D z (by omega) (by rw [hzm]; exact hfin))
  rw [hzm, show decide (9223372036854775808 ≤ z) = false from decide_eq_false (by omega)] at HFin
  obtain ⟨e1, e2⟩ := pt_D z
  obtain ⟨m1, m2⟩ := mex_D z hfin
  have hv := md_mnt fmD z
  have HParts := Lib.hid (parts_D z (by omega))
  rw [e1, e2] at HParts
  obtain ⟨man, hman⟩ : ∃ man, mnt fmD z = man := ⟨_, rfl⟩
  obtain ⟨ex, hex⟩ : ∃ ex, mex fmD z = ex := ⟨_, rfl⟩
  rw [hman, hex] at HParts hv
  rw [hex] at m1
  rw [hman] at m2
  have p1 : IntKind.u64.wrap (2 * (man : Int)) = 2 * (man : Int) := by rw [IntKind.wrap_u64]; omega
  have p2 : IntKind.u64.wrap (2 * (man : Int) + 1) = ((2 * man + 1 : Nat) : Int) := by rw [IntKind.wrap_u64]; omega
  have p3 : IntKind.i64.wrap (-1074 + (ex : Int) - 1) = -1075 + (ex : Int) := by rw [IntKind.wrap_i64]; omega
  have htz : tz (2 * man + 1) = 0 := tz_odd (by omega)
  have HNum := Lib.hid (fun W hT => number_bin false (2 * man + 1) (-1075 + (ex : Int)) W hT (by omega) (by rw [W64_num]; omega) (by omega) (by omega))
  simp only [htz, Nat.pow_zero, Nat.div_one] at HNum
  have HV := Lib.hid (show (2 * man + 1) * 2 ^ ex = md fmD z from hv.symm)
  have HU := Lib.hid (show ex ≤ 2200 by omega)
  have HE := Lib.hid (show (-1075 + (ex : Int)) + ((0 : Nat) : Int) = -1075 + (ex : Int) by omega)
  have hW0 := below_alloc' w (.cells #[.bool false, .slice none 0 0, .int .i64 0] 86)
  have hR : Box3 (w.alloc (.cells #[.bool false, .slice none 0 0, .int .i64 0] 86)) w.heap.size (.bool false) (.slice none 0 0) (.int .i64 0) := ⟨by simp, by simp, by simp, by simp, by simp, by simp, by simp⟩
  have HR := Lib.hid hR
  have HW0 := Lib.hid hW0
  have HT := Lib.hid (ht.below hW0)
  clear hzm hfin e1 e2 m1 m2 hv hman hex htz hW0 hR ht
  go_enter Tryz.func74, Tryz.ntmps74
  go_wp2_with fail
  refine (HFin.out _).mono ?_
  rintro e w1 ⟨rfl, hb1⟩
  have hb2 := below_alloc' w1 (.cells #[.int .i64 64, .int .i64 53, .int .i64 (-1074), .int .u64 9221120237041090561] 78)
  have HR2 := Lib.hid ((HR.out.below hb1).below hb2)
  have HT2 := Lib.hid ((HT.out.below hb1).below hb2)
  have HW2 := Lib.hid (below_chain (below_chain HW0.out hb1) hb2)
  clear hb1 hb2 HR HT HW0 HFin
  go_wp2_with fail
  refine (HParts.out _).mono ?_
  rintro e w3 ⟨rfl, hb3⟩
  have HR3 := Lib.hid (HR2.out.below hb3)
  have HT3 := Lib.hid (HT2.out.below hb3)
  have HW3 := Lib.hid (below_chain HW2.out hb3)
  clear hb3 HR2 HT2 HW2 HParts
  go_wp2_with fail
  refine (HNum.out _ HT3.out).mono ?_
  rintro e w4 ⟨s4, rfl, hn4, hb4⟩
  rw [HE.out]
  have HN4 := Lib.hid hn4
  have HR4 := Lib.hid (HR3.out.below hb4)
  have HW4 := Lib.hid (below_chain HW3.out hb4)
  obtain ⟨A4, c4, rfl, hc4, hr4⟩ := hn4
  have HO := Lib.hid (show (2 * man + 1) % 2 = 1 by omega)
  obtain ⟨m, hm⟩ : ∃ m, 2 * man + 1 = m := ⟨_, rfl⟩
  rw [hm] at HV HO HN4 ⊢
  obtain ⟨n4, hn4⟩ : ∃ n, (toL m).length = n := ⟨_, rfl⟩
  rw [hn4] at HN4 ⊢
  obtain ⟨r0, r1, r2, r3, r4, r5, r6⟩ := HR4.out
  clear hc4 hr4 hb4 HR3 HW3 HT3 hn4 hm HE HNum p1 p2 p3
  have hp := HR4.out.put (u0 := .bool false) (u1 := .slice A4 n4 c4) (u2 := .int .i64 (-1075 + (ex : Int)))
  have hn := HN4.out.put3 HR4.out (by simp) (by simp) (by simp) (.bool false) (.slice A4 n4 c4) (.int .i64 (-1075 + (ex : Int)))
  have hb := put3_below (u0 := .bool false) (u1 := .slice A4 n4 c4) (u2 := .int .i64 (-1075 + (ex : Int))) HW4.out (Nat.le_refl _)
  unfold put3 at hp hn hb
  obtain ⟨e0, e1, e2, _⟩ := hp
  have HNn := Lib.hid hn
  have HBn := Lib.hid hb
  clear hn hb
  go_wp2
  exact bodyPost_ret (v := .tuple #[.agg #[.bool false, .slice A4 n4 c4, .int .i64 (-1075 + (ex : Int))], .int .i64 0]) (by simp [results, Tryz.results74, go_sem, e0, e1, e2]) rfl ⟨m, ex, _, rfl, HNn.out, HO.out, HV.out, HU.out, HBn.out⟩
end Go.Proofs.YtibjogbalmbeeaaGreatDoor
