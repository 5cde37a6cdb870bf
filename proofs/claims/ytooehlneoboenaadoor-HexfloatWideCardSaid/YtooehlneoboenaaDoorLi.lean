/- Walks of binary: number, Value, Widen; round: Narrow; and of the law Wide. -/
import Derived.Test.YtooehlneoboenaaDoorLh
import Derived.Test.YtooehlneoboenaaDoorBe
namespace Go.Proofs.YtooehlneoboenaaDoor
open Go.RowKit Go.Sort

theorem three_set {W : World} {g : Nat} {x0 x1 x2 : Value} (h : Box3 W g x0 x1 x2) (v0 v1 v2 : Value) :
    (((W.setCell ⟨g, 0, none⟩ v0).setCell ⟨g, 1, none⟩ v1).setCell ⟨g, 2, none⟩ v2).cell? ⟨g, 0, none⟩ = some v0 ∧
    (((W.setCell ⟨g, 0, none⟩ v0).setCell ⟨g, 1, none⟩ v1).setCell ⟨g, 2, none⟩ v2).cell? ⟨g, 1, none⟩ = some v1 ∧
    (((W.setCell ⟨g, 0, none⟩ v0).setCell ⟨g, 1, none⟩ v1).setCell ⟨g, 2, none⟩ v2).cell? ⟨g, 2, none⟩ = some v2 ∧
    (W.setCell ⟨g, 0, none⟩ v0).cell? ⟨g, 0, none⟩ = some v0 ∧ ((W.setCell ⟨g, 0, none⟩ v0).setCell ⟨g, 1, none⟩ v1).cell? ⟨g, 1, none⟩ = some v1 := by
  obtain ⟨g0, g1, g2, _⟩ := h
  refine ⟨?_, ?_, ?_, World.cell?_setCell_same' _ _ _ (by rw [g0]; rfl), World.cell?_setCell_same' _ _ _ (by rw [cell_other (by simp), g1]; rfl)⟩
  · rw [cell_other (by simp), cell_other (by simp)]; exact World.cell?_setCell_same' _ _ _ (by rw [g0]; rfl)
  · rw [cell_other (by simp)]; exact World.cell?_setCell_same' _ _ _ (by rw [cell_other (by simp), g1]; rfl)
  · exact World.cell?_setCell_same' _ _ _ (by rw [cell_other (by simp), cell_other (by simp), g2]; rfl)
/-- A natural stays where three cells that hold no word are written. -/
theorem NatAt.three {W : World} {g : Nat} {b : Bool} {A : Option Addr} {n c : Nat} {z : Int} {v : Value} {a : Nat} (h : NatAt W v a) (hB : Box3 W g (.bool b) (.slice A n c) (.int .i64 z)) (v0 v1 v2 : Value) :
    NatAt (((W.setCell ⟨g, 0, none⟩ v0).setCell ⟨g, 1, none⟩ v1).setCell ⟨g, 2, none⟩ v2) v a := by
  obtain ⟨g0, g1, g2, _⟩ := hB
  have a0 := h.write g0 (fun x e => by cases e) v0
  have a1 := a0.write (p := ⟨g, 1, none⟩) (u := .slice A n c) (by rw [cell_other (by simp)]; exact g1) (fun x e => by cases e) v1
  exact a1.write (p := ⟨g, 2, none⟩) (u := .int .i64 z) (by rw [cell_other (by simp), cell_other (by simp)]; exact g2) (fun x e => by cases e) v2
theorem box3_new (w : World) (v0 v1 v2 : Value) (t : TypeId) : Box3 (w.alloc (.cells #[v0, v1, v2] t)) w.heap.size v0 v1 v2 := ⟨by simp, by simp, by simp, by simp, by simp, by simp, by simp⟩
theorem below_three {B : Nat} {w W : World} (h : Below B w W) {g : Nat} (hg : B ≤ g) (v0 v1 v2 : Value) : Below B w (((W.setCell ⟨g, 0, none⟩ v0).setCell ⟨g, 1, none⟩ v1).setCell ⟨g, 2, none⟩ v2) :=
  ((h.setCell (p := ⟨g, 0, none⟩) hg v0).setCell (p := ⟨g, 1, none⟩) hg v1).setCell (p := ⟨g, 2, none⟩) hg v2

set_option maxRecDepth 100000 in
set_option maxHeartbeats 1000000 in
theorem number_walk2 (neg : Bool) (man : Nat) (exp : Int) (h0 : man ≠ 0) (hm : man < W64) (h1 : -2000 ≤ exp) (h2 : exp ≤ 5000) (w : World) (ht : Tab64 w) :
    Calls Tryd.prog 55 #[.bool neg, .int .u64 (man : Int), .int .i64 exp] w fun e w' =>
      ∃ s', e = .returned (.tuple #[.agg #[.bool neg, s', .int .i64 (exp + tz man)], .int .i64 0]) ∧ NatAt w' s' (man / 2 ^ tz man) ∧ Below w.heap.size w w' := by
  have hne : ((man : Int) != 0) = true := by rw [bne_iff_ne]; omega
  have hbl : blen man ≤ 64 := blen_le.2 (by rw [← W64_eq]; exact hm)
  have htz := tz_le h0
  have hde : dexp man exp = exp + tz man := by unfold dexp; rw [if_neg h0]
  have hw0 := below_alloc' w (.cells #[.bool false, .slice none 0 0, .int .i64 0] 78)
  have hB0 := box3_new w (.bool false) (.slice none 0 0) (.int .i64 0) 78
  have HWd := Lib.hid (fun w => word_walk man w hm)
  have HMk := Lib.hid (show ∀ s W, NatAt W s man → Tab64 W → Calls Tryd.prog 60 #[.agg #[.bool neg, s], .int .i64 exp] W fun e w' => ∃ s', e = .returned (.tuple #[.agg #[.bool neg, s', .int .i64 (exp + tz man)], .int .i64 0]) ∧ NatAt w' s' (man / 2 ^ tz man) ∧ Below W.heap.size W w' from fun s W hn htt => by
    have := make_walk neg s man exp W hn htt (by omega) (fun _ => h0) (by omega) (by omega) (fun _ => by omega) (fun _ => by omega)
    rw [hde] at this
    exact this)
  have HT := Lib.hid ht
  have HW0 := Lib.hid hw0
  have HB0 := Lib.hid hB0
  obtain ⟨y, hy⟩ : ∃ y : Int, exp + (tz man : Int) = y := ⟨_, rfl⟩
  obtain ⟨q, hq⟩ : ∃ q, man / 2 ^ tz man = q := ⟨_, rfl⟩
  rw [hy, hq] at HMk ⊢
  clear hw0 hB0 ht hm hbl htz hde hy hq h0
  cases neg
  all_goals
    go_enter Tryd.func55, Tryd.ntmps55
    go_wp2_with fail
    refine (HWd.out _).mono ?_
    rintro e w1 ⟨v1, rfl, hn1, hb1⟩
    have HN1 := Lib.hid hn1
    have HT1 := Lib.hid (HT.out.below (below_chain HW0.out hb1))
    have HB1 := Lib.hid (HB0.out.below hb1)
    have HW1 := Lib.hid (below_chain HW0.out hb1)
    obtain ⟨A1, c1, rfl, hc1, hr1⟩ := hn1
    clear hc1 hr1 hb1
    go_wp2_with fail
    refine (HMk.out _ _ HN1.out HT1.out).mono ?_
    rintro e w2 ⟨v2, rfl, hn2, hb2⟩
    have HN2 := Lib.hid hn2
    have HB2 := Lib.hid (HB1.out.below hb2)
    have HW2 := Lib.hid (below_chain HW1.out hb2)
    obtain ⟨A2, c2, rfl, hc2, hr2⟩ := hn2
    clear hc2 hr2 hb2
    obtain ⟨g0, g1, g2, f0, f1, f2, f3⟩ := HB2.out
    go_wp2
  · obtain ⟨r0, r1, r2, _, _⟩ := three_set HB2.out (.bool false) (.slice A2 (toL q).length c2) (.int .i64 y)
    refine bodyPost_ret (v := .tuple #[.agg #[.bool false, .slice A2 (toL q).length c2, .int .i64 y], .int .i64 0]) (by simp [results, Tryd.results55, go_sem, r0, r1, r2]) rfl ⟨_, rfl, HN2.out.three HB2.out _ _ _, ?_⟩
    exact below_three HW2.out (Nat.le_refl _) _ _ _
  · obtain ⟨r0, r1, r2, _, _⟩ := three_set HB2.out (.bool true) (.slice A2 (toL q).length c2) (.int .i64 y)
    refine bodyPost_ret (v := .tuple #[.agg #[.bool true, .slice A2 (toL q).length c2, .int .i64 y], .int .i64 0]) (by simp [results, Tryd.results55, go_sem, r0, r1, r2]) rfl ⟨_, rfl, HN2.out.three HB2.out _ _ _, ?_⟩
    exact below_three HW2.out (Nat.le_refl _) _ _ _

set_option maxRecDepth 100000 in
set_option maxHeartbeats 1000000 in
theorem value_walk2 (b : Nat) (hb : b < 18446744073709551616) (hfin : b % 9223372036854775808 < 9218868437227405312) (hz : b % 9223372036854775808 ≠ 0) (w : World) (ht : Tab64 w) :
    Calls Tryd.prog 41 #[.int .i64 64, .int .u64 (b : Int)] w fun e w' =>
      ∃ s', e = .returned (.tuple #[.agg #[.bool (decide (9223372036854775808 ≤ b)), s', .int .i64 (ptE 4503599627370496 (-1074) (b % 9223372036854775808) + tz (ptM 4503599627370496 (b % 9223372036854775808)))], .int .i64 0]) ∧
        NatAt w' s' (ptM 4503599627370496 (b % 9223372036854775808) / 2 ^ tz (ptM 4503599627370496 (b % 9223372036854775808))) ∧ Below w.heap.size w w' := by
  have hm := ptM_facts fmD (by decide) (b % 9223372036854775808)
  rw [show 2 ^ (fmD.P - 1) = 4503599627370496 by decide, show 2 ^ fmD.P = 9007199254740992 by decide] at hm
  have he : -2000 ≤ ptE 4503599627370496 (-1074) (b % 9223372036854775808) ∧ ptE 4503599627370496 (-1074) (b % 9223372036854775808) ≤ 5000 := by
    have hq : b % 9223372036854775808 / 4503599627370496 ≤ 2047 := by omega
    unfold ptE
    generalize b % 9223372036854775808 / 4503599627370496 = q at *
    split <;> omega
  have HF := Lib.hid (fun w => finite_D b hb hfin w)
  have HP := Lib.hid (fun w => parts_D (b % 9223372036854775808) (Nat.mod_lt _ (by omega)) w)
  have HT := Lib.hid ht
  have HW0 := Lib.hid (below_alloc' w (.cells #[.bool false, .slice none 0 0, .int .i64 0] 78))
  have HB0 := Lib.hid (box3_new w (.bool false) (.slice none 0 0) (.int .i64 0) 78)
  obtain ⟨neg, hneg⟩ : ∃ neg, decide (9223372036854775808 ≤ b) = neg := ⟨_, rfl⟩
  obtain ⟨M, hM⟩ : ∃ M, ptM 4503599627370496 (b % 9223372036854775808) = M := ⟨_, rfl⟩
  obtain ⟨E, hE⟩ : ∃ E, ptE 4503599627370496 (-1074) (b % 9223372036854775808) = E := ⟨_, rfl⟩
  rw [hM] at hm HP ⊢
  rw [hE] at he HP ⊢
  rw [hneg] at HF ⊢
  obtain ⟨z, hzz⟩ : ∃ z, b % 9223372036854775808 = z := ⟨_, rfl⟩
  rw [hzz] at HF HP hz hm
  have HNu := Lib.hid (fun W hW => number_walk2 neg M E (hm.2 hz) (by rw [W64_num]; omega) he.1 he.2 W hW)
  obtain ⟨y, hy⟩ : ∃ y : Int, E + (tz M : Int) = y := ⟨_, rfl⟩
  obtain ⟨q, hq⟩ : ∃ q, M / 2 ^ tz M = q := ⟨_, rfl⟩
  rw [hy, hq] at HNu ⊢
  clear hm he ht hb hfin hneg hM hE hzz hz hy hq
  go_enter Tryd.func41, Tryd.ntmps41
  go_wp2_with fail
  refine (HF.out _).mono ?_
  rintro e w1 ⟨rfl, hb1⟩
  have hb2 := below_alloc' w1 (.cells #[.int .i64 64, .int .i64 53, .int .i64 (-1074), .int .u64 9221120237041090561] 62)
  have HB1 := Lib.hid ((HB0.out.below hb1).below hb2)
  have HW1 := Lib.hid (below_chain (below_chain HW0.out hb1) hb2)
  clear hb1 hb2
  go_wp2_with fail
  refine (HP.out _).mono ?_
  rintro e w2 ⟨rfl, hb2⟩
  have HB2 := Lib.hid (HB1.out.below hb2)
  have HW2 := Lib.hid (below_chain HW1.out hb2)
  clear hb2
  go_wp2_with fail
  refine (HNu.out _ (HT.out.below HW2.out)).mono ?_
  rintro e w3 ⟨v3, rfl, hn3, hb3⟩
  have HN3 := Lib.hid hn3
  have HB3 := Lib.hid (HB2.out.below hb3)
  have HW3 := Lib.hid (below_chain HW2.out hb3)
  obtain ⟨A2, c2, rfl, hc2, hr2⟩ := hn3
  clear hc2 hr2 hb3
  obtain ⟨g0, g1, g2, f0, f1, f2, f3⟩ := HB3.out
  go_wp2
  obtain ⟨r0, r1, r2, _, _⟩ := three_set HB3.out (.bool neg) (.slice A2 (toL q).length c2) (.int .i64 y)
  refine bodyPost_ret (v := .tuple #[.agg #[.bool neg, .slice A2 (toL q).length c2, .int .i64 y], .int .i64 0]) (by simp [results, Tryd.results41, go_sem, r0, r1, r2]) rfl ⟨_, rfl, HN3.out.three HB3.out _ _ _, ?_⟩
  exact below_three HW3.out (Nat.le_refl _) _ _ _
end Go.Proofs.YtooehlneoboenaaDoor
