/- The walk of the law CalcDepth (printed by gen_depth.py). -/
import Derived.Test.YtibjogbalmbeeaaGreatDoorU37

namespace Go.Proofs.YtibjogbalmbeeaaGreatDoor
open Go.RowKit

set_option maxRecDepth 100000 in
set_option maxHeartbeats 4000000 in
theorem depth_case1 (k : Nat) (hk : k ≤ 25) (he : k % 2 = 0) (w : World) (ht : Tab64 w) (h10 : Tab10 w) :
    Calls Tryz.prog 5 #[.int .u8 (k : Int)] w fun e w' => e = .returned (.bool true) ∧ Below w.heap.size w w' := by
  have hk255 : k ≤ 255 := by omega
  have hm190 : k % 190 ≤ 189 := by omega
  have H40 := Lib.hid (fun W => times_walk [40] k (by decide) (by omega) W)
  have H41 := Lib.hid (fun W => times_walk [41] k (by decide) (by omega) W)
  have H45 := Lib.hid (fun W => times_walk [45] k (by decide) (by omega) W)
  have H4540 := Lib.hid (fun W => times_walk [45, 40] k (by decide) (by omega) W)
  have Habs := Lib.hid (fun W => times_walk [97, 98, 115, 40] (k % 190) (by decide) (by omega) W)
  have H41m := Lib.hid (fun W => times_walk [41] (k % 190) (by decide) (by omega) W)
  have z1 := rep_size [40] (by decide) k hk255
  have z2 := rep_size [41] (by decide) k hk255
  have z3 := rep_size [45] (by decide) k hk255
  have z4 := rep_size [45, 40] (by decide) k hk255
  have z5 := rep_size [97, 98, 115, 40] (by decide) (k % 190) (by omega)
  have z6 := rep_size [41] (by decide) (k % 190) (by omega)
  have La := Lib.hid (fun (W : World) q m (h : DkB W q m false false) (t : Tab64 W) (t10 : Tab10 W) => show Calls Tryz.prog 11 #[.pointer (some ⟨q, 0, none⟩), .string ((bs (rep [40] k) ++ ⟨#[49]⟩) ++ bs (rep [41] k))] W fun e w' => e = .returned (.agg #[.string ⟨#[49]⟩, .int .i64 0, .int .i64 0]) ∧ DkB w' q m false false ∧ W.grownBy w' (some q) from by rw [text_A]; exact depth_a h t t10 (by omega))
  have Lb := Lib.hid (fun (W : World) q m (h : DkB W q m false false) (t : Tab64 W) (t10 : Tab10 W) => show Calls Tryz.prog 11 #[.pointer (some ⟨q, 0, none⟩), .string (bs (rep [45] k) ++ ⟨#[49]⟩)] W fun e w' => e = .returned (.agg #[.string ⟨#[49]⟩, .int .i64 0, .int .i64 0]) ∧ DkB w' q m false false ∧ W.grownBy w' (some q) from by rw [text_B]; exact (by have := depth_b h t t10 (k := k) (by omega); rw [if_pos he] at this; exact this))
  have Lc := Lib.hid (fun (W : World) q m (h : DkB W q m false false) (t : Tab64 W) (t10 : Tab10 W) => show Calls Tryz.prog 11 #[.pointer (some ⟨q, 0, none⟩), .string ((bs (rep [45, 40] k) ++ ⟨#[49]⟩) ++ bs (rep [41] k))] W fun e w' => e = .returned (.agg #[.string ⟨#[49]⟩, .int .i64 0, .int .i64 0]) ∧ DkB w' q m false false ∧ W.grownBy w' (some q) from by rw [text_C]; exact (by have := depth_c h t t10 (k := k) (by omega); rw [if_pos he] at this; exact this))
  have Lf := Lib.hid (fun (W : World) q m (h : DkB W q m false false) (t : Tab64 W) (t10 : Tab10 W) => show Calls Tryz.prog 11 #[.pointer (some ⟨q, 0, none⟩), .string ((bs (rep [97, 98, 115, 40] (k % 190)) ++ ⟨#[49]⟩) ++ bs (rep [41] (k % 190)))] W fun e w' => e = .returned (.agg #[.string ⟨#[49]⟩, .int .i64 0, .int .i64 0]) ∧ DkB w' q m false false ∧ W.grownBy w' (some q) from by rw [text_F]; exact depth_f h t t10 (by omega))
  have HNw := Lib.hid (fun W => new_walk W)
  have HIs := Lib.hid (fun R W => lawis_walk R W)
  have HFl := Lib.hid (fun a e W => lawfails_walk a e W)
  have HT := Lib.hid ht
  have H10 := Lib.hid h10
  generalize bs (rep [40] k) = p40 at *
  generalize bs (rep [41] k) = p41 at *
  generalize bs (rep [45] k) = p45 at *
  generalize bs (rep [45, 40] k) = p4540 at *
  generalize bs (rep [97, 98, 115, 40] (k % 190)) = pabs at *
  generalize bs (rep [41] (k % 190)) = p41m at *
  have c0 : IntKind.i64.wrap (k : Int) = (k : Int) := by rw [IntKind.wrap_i64]; omega
  have c1 : Int.tmod (k : Int) 190 = ((k % 190 : Nat) : Int) := by rw [Int.tmod_eq_emod_of_nonneg (by omega)]; omega
  have c2 : IntKind.i64.wrap ((k % 190 : Nat) : Int) = ((k % 190 : Nat) : Int) := by rw [IntKind.wrap_i64]; omega
  have c3 : Int.tmod (k : Int) 2 = 0 := by rw [Int.tmod_eq_emod_of_nonneg (by omega)]; omega
  have g1 : ((k % 190 : Nat) : Int) ≤ 50 := by omega
  have g2 : ¬ (50 : Int) < ((k % 190 : Nat) : Int) := by omega
  have g3 : ¬ (25 : Int) < (k : Int) := by omega
  have g4 : (k : Int) ≤ 25 := by omega
  have g5 : ¬ (50 : Int) < (k : Int) := by omega
  generalize hmm : k % 190 = mm at *
  clear ht h10 hk he hk255 hm190 hmm
  go_enter Tryz.func5, Tryz.ntmps5
  go_wp2_with fail
  refine (HNw.out w).mono ?_
  rintro e w1 ⟨rfl, ⟨m, hm⟩, hb1⟩
  have K := Lib.hid (show Dk w w1 w.heap.size m false from ⟨hb1, hm, Nat.le_refl _⟩)
  generalize hq : w.heap.size = q at K hm ⊢
  have HQ := Lib.hid hq
  clear hm hb1 HNw hq
  go_wp2_with fail
  refine (H40.out _).mono ?_
  rintro e wx ⟨rfl, hw⟩
  (have h0 := hw.symm); subst h0
  clear hw
  go_wp2_with fail
  refine (H41.out _).mono ?_
  rintro e wx ⟨rfl, hw⟩
  (have h0 := hw.symm); subst h0
  clear hw
  go_wp2_with fail
  refine (La.out _ q m K.out.dk (HT.out.below K.out.bl) (H10.out.below K.out.bl)).mono ?_
  rintro e va ⟨rfl, hd, hg⟩
  have K := Lib.hid (K.out.line hd hg)
  clear hd hg La
  have Ra := Lib.hid (Rg.new K.out ⟨#[49]⟩ 0 0)
  have K := Lib.hid (K.out.alloc (.cells #[.string ⟨#[49]⟩, .int .i64 0, .int .i64 0] 31))
  go_wp2_with fail
  refine (H45.out _).mono ?_
  rintro e wx ⟨rfl, hw⟩
  (have h0 := hw.symm); subst h0
  clear hw
  go_wp2_with fail
  refine (Lb.out _ q m K.out.dk (HT.out.below K.out.bl) (H10.out.below K.out.bl)).mono ?_
  rintro e vb ⟨rfl, hd, hg⟩
  have K := Lib.hid (K.out.line hd hg)
  have Ra := Lib.hid (Ra.out.grb hg)
  clear hd hg Lb
  have Ra := Lib.hid (Ra.out.alloc (.cells #[.string ⟨#[49]⟩, .int .i64 0, .int .i64 0] 31))
  have Rb := Lib.hid (Rg.new K.out ⟨#[49]⟩ 0 0)
  have K := Lib.hid (K.out.alloc (.cells #[.string ⟨#[49]⟩, .int .i64 0, .int .i64 0] 31))
  go_wp2_with fail
  refine (H4540.out _).mono ?_
  rintro e wx ⟨rfl, hw⟩
  (have h0 := hw.symm); subst h0
  clear hw
  go_wp2_with fail
  refine (H41.out _).mono ?_
  rintro e wx ⟨rfl, hw⟩
  (have h0 := hw.symm); subst h0
  clear hw
  go_wp2_with fail
  refine (Lc.out _ q m K.out.dk (HT.out.below K.out.bl) (H10.out.below K.out.bl)).mono ?_
  rintro e vc ⟨rfl, hd, hg⟩
  have K := Lib.hid (K.out.line hd hg)
  have Ra := Lib.hid (Ra.out.grb hg)
  have Rb := Lib.hid (Rb.out.grb hg)
  clear hd hg Lc
  have Ra := Lib.hid (Ra.out.alloc (.cells #[.string ⟨#[49]⟩, .int .i64 0, .int .i64 0] 31))
  have Rb := Lib.hid (Rb.out.alloc (.cells #[.string ⟨#[49]⟩, .int .i64 0, .int .i64 0] 31))
  have Rc := Lib.hid (Rg.new K.out ⟨#[49]⟩ 0 0)
  have K := Lib.hid (K.out.alloc (.cells #[.string ⟨#[49]⟩, .int .i64 0, .int .i64 0] 31))
  go_wp2_with fail
  refine (Habs.out _).mono ?_
  rintro e wx ⟨rfl, hw⟩
  (have h0 := hw.symm); subst h0
  clear hw
  go_wp2_with fail
  refine (H41m.out _).mono ?_
  rintro e wx ⟨rfl, hw⟩
  (have h0 := hw.symm); subst h0
  clear hw
  go_wp2_with fail
  refine (Lf.out _ q m K.out.dk (HT.out.below K.out.bl) (H10.out.below K.out.bl)).mono ?_
  rintro e vf ⟨rfl, hd, hg⟩
  have K := Lib.hid (K.out.line hd hg)
  have Ra := Lib.hid (Ra.out.grb hg)
  have Rb := Lib.hid (Rb.out.grb hg)
  have Rc := Lib.hid (Rc.out.grb hg)
  clear hd hg Lf
  have Ra := Lib.hid (Ra.out.alloc (.cells #[.string ⟨#[49]⟩, .int .i64 0, .int .i64 0] 31))
  have Rb := Lib.hid (Rb.out.alloc (.cells #[.string ⟨#[49]⟩, .int .i64 0, .int .i64 0] 31))
  have Rc := Lib.hid (Rc.out.alloc (.cells #[.string ⟨#[49]⟩, .int .i64 0, .int .i64 0] 31))
  have Rf := Lib.hid (Rg.new K.out ⟨#[49]⟩ 0 0)
  have K := Lib.hid (K.out.alloc (.cells #[.string ⟨#[49]⟩, .int .i64 0, .int .i64 0] 31))
  obtain ⟨ff0, ff1, ff2, _⟩ := Rf.out.1
  go_wp2_with fail
  refine (HIs.out ⟨#[49]⟩ _).mono ?_
  rintro e u0 ⟨rfl, hb⟩
  have K := Lib.hid (K.out.below hb)
  have Rc := Lib.hid (Rc.out.below hb)
  have Ra := Lib.hid (Ra.out.below hb)
  have Rb := Lib.hid (Rb.out.below hb)
  clear hb ff0 ff1 ff2
  obtain ⟨cc0, cc1, cc2, _⟩ := Rc.out.1
  go_wp2_with fail
  refine (HIs.out ⟨#[49]⟩ _).mono ?_
  rintro e u1 ⟨rfl, hb⟩
  have K := Lib.hid (K.out.below hb)
  have Ra := Lib.hid (Ra.out.below hb)
  have Rb := Lib.hid (Rb.out.below hb)
  clear hb cc0 cc1 cc2
  obtain ⟨aa0, aa1, aa2, _⟩ := Ra.out.1
  go_wp2_with fail
  refine (HIs.out ⟨#[49]⟩ _).mono ?_
  rintro e u2 ⟨rfl, hb⟩
  have K := Lib.hid (K.out.below hb)
  have Rb := Lib.hid (Rb.out.below hb)
  clear hb aa0 aa1 aa2
  obtain ⟨bb0, bb1, bb2, _⟩ := Rb.out.1
  go_wp2_with fail
  refine (HIs.out ⟨#[49]⟩ _).mono ?_
  rintro e u3 ⟨rfl, hb⟩
  have K := Lib.hid (K.out.below hb)
  clear hb bb0 bb1 bb2
  go_wp2_with fail
  exact bodyPost_ret (v := .bool true) (by simp [results, Tryz.results5, go_sem]) rfl ⟨rfl, K.out.bl⟩

set_option maxRecDepth 100000 in
set_option maxHeartbeats 4000000 in
theorem depth_case2 (k : Nat) (hk : k ≤ 25) (he : k % 2 = 1) (w : World) (ht : Tab64 w) (h10 : Tab10 w) :
    Calls Tryz.prog 5 #[.int .u8 (k : Int)] w fun e w' => e = .returned (.bool true) ∧ Below w.heap.size w w' := by
  have hk255 : k ≤ 255 := by omega
  have hm190 : k % 190 ≤ 189 := by omega
  have H40 := Lib.hid (fun W => times_walk [40] k (by decide) (by omega) W)
  have H41 := Lib.hid (fun W => times_walk [41] k (by decide) (by omega) W)
  have H45 := Lib.hid (fun W => times_walk [45] k (by decide) (by omega) W)
  have H4540 := Lib.hid (fun W => times_walk [45, 40] k (by decide) (by omega) W)
  have Habs := Lib.hid (fun W => times_walk [97, 98, 115, 40] (k % 190) (by decide) (by omega) W)
  have H41m := Lib.hid (fun W => times_walk [41] (k % 190) (by decide) (by omega) W)
  have z1 := rep_size [40] (by decide) k hk255
  have z2 := rep_size [41] (by decide) k hk255
  have z3 := rep_size [45] (by decide) k hk255
  have z4 := rep_size [45, 40] (by decide) k hk255
  have z5 := rep_size [97, 98, 115, 40] (by decide) (k % 190) (by omega)
  have z6 := rep_size [41] (by decide) (k % 190) (by omega)
  have La := Lib.hid (fun (W : World) q m (h : DkB W q m false false) (t : Tab64 W) (t10 : Tab10 W) => show Calls Tryz.prog 11 #[.pointer (some ⟨q, 0, none⟩), .string ((bs (rep [40] k) ++ ⟨#[49]⟩) ++ bs (rep [41] k))] W fun e w' => e = .returned (.agg #[.string ⟨#[49]⟩, .int .i64 0, .int .i64 0]) ∧ DkB w' q m false false ∧ W.grownBy w' (some q) from by rw [text_A]; exact depth_a h t t10 (by omega))
  have Lb := Lib.hid (fun (W : World) q m (h : DkB W q m false false) (t : Tab64 W) (t10 : Tab10 W) => show Calls Tryz.prog 11 #[.pointer (some ⟨q, 0, none⟩), .string (bs (rep [45] k) ++ ⟨#[49]⟩)] W fun e w' => e = .returned (.agg #[.string ⟨#[45, 49]⟩, .int .i64 0, .int .i64 0]) ∧ DkB w' q m false false ∧ W.grownBy w' (some q) from by rw [text_B]; exact (by have := depth_b h t t10 (k := k) (by omega); rw [if_neg (by omega)] at this; exact this))
  have Lc := Lib.hid (fun (W : World) q m (h : DkB W q m false false) (t : Tab64 W) (t10 : Tab10 W) => show Calls Tryz.prog 11 #[.pointer (some ⟨q, 0, none⟩), .string ((bs (rep [45, 40] k) ++ ⟨#[49]⟩) ++ bs (rep [41] k))] W fun e w' => e = .returned (.agg #[.string ⟨#[45, 49]⟩, .int .i64 0, .int .i64 0]) ∧ DkB w' q m false false ∧ W.grownBy w' (some q) from by rw [text_C]; exact (by have := depth_c h t t10 (k := k) (by omega); rw [if_neg (by omega)] at this; exact this))
  have Lf := Lib.hid (fun (W : World) q m (h : DkB W q m false false) (t : Tab64 W) (t10 : Tab10 W) => show Calls Tryz.prog 11 #[.pointer (some ⟨q, 0, none⟩), .string ((bs (rep [97, 98, 115, 40] (k % 190)) ++ ⟨#[49]⟩) ++ bs (rep [41] (k % 190)))] W fun e w' => e = .returned (.agg #[.string ⟨#[49]⟩, .int .i64 0, .int .i64 0]) ∧ DkB w' q m false false ∧ W.grownBy w' (some q) from by rw [text_F]; exact depth_f h t t10 (by omega))
  have HNw := Lib.hid (fun W => new_walk W)
  have HIs := Lib.hid (fun R W => lawis_walk R W)
  have HFl := Lib.hid (fun a e W => lawfails_walk a e W)
  have HT := Lib.hid ht
  have H10 := Lib.hid h10
  generalize bs (rep [40] k) = p40 at *
  generalize bs (rep [41] k) = p41 at *
  generalize bs (rep [45] k) = p45 at *
  generalize bs (rep [45, 40] k) = p4540 at *
  generalize bs (rep [97, 98, 115, 40] (k % 190)) = pabs at *
  generalize bs (rep [41] (k % 190)) = p41m at *
  have c0 : IntKind.i64.wrap (k : Int) = (k : Int) := by rw [IntKind.wrap_i64]; omega
  have c1 : Int.tmod (k : Int) 190 = ((k % 190 : Nat) : Int) := by rw [Int.tmod_eq_emod_of_nonneg (by omega)]; omega
  have c2 : IntKind.i64.wrap ((k % 190 : Nat) : Int) = ((k % 190 : Nat) : Int) := by rw [IntKind.wrap_i64]; omega
  have c3 : Int.tmod (k : Int) 2 = 1 := by rw [Int.tmod_eq_emod_of_nonneg (by omega)]; omega
  have g1 : ((k % 190 : Nat) : Int) ≤ 50 := by omega
  have g2 : ¬ (50 : Int) < ((k % 190 : Nat) : Int) := by omega
  have g3 : ¬ (25 : Int) < (k : Int) := by omega
  have g4 : (k : Int) ≤ 25 := by omega
  have g5 : ¬ (50 : Int) < (k : Int) := by omega
  generalize hmm : k % 190 = mm at *
  clear ht h10 hk he hk255 hm190 hmm
  go_enter Tryz.func5, Tryz.ntmps5
  go_wp2_with fail
  refine (HNw.out w).mono ?_
  rintro e w1 ⟨rfl, ⟨m, hm⟩, hb1⟩
  have K := Lib.hid (show Dk w w1 w.heap.size m false from ⟨hb1, hm, Nat.le_refl _⟩)
  generalize hq : w.heap.size = q at K hm ⊢
  have HQ := Lib.hid hq
  clear hm hb1 HNw hq
  go_wp2_with fail
  refine (H40.out _).mono ?_
  rintro e wx ⟨rfl, hw⟩
  (have h0 := hw.symm); subst h0
  clear hw
  go_wp2_with fail
  refine (H41.out _).mono ?_
  rintro e wx ⟨rfl, hw⟩
  (have h0 := hw.symm); subst h0
  clear hw
  go_wp2_with fail
  refine (La.out _ q m K.out.dk (HT.out.below K.out.bl) (H10.out.below K.out.bl)).mono ?_
  rintro e va ⟨rfl, hd, hg⟩
  have K := Lib.hid (K.out.line hd hg)
  clear hd hg La
  have Ra := Lib.hid (Rg.new K.out ⟨#[49]⟩ 0 0)
  have K := Lib.hid (K.out.alloc (.cells #[.string ⟨#[49]⟩, .int .i64 0, .int .i64 0] 31))
  go_wp2_with fail
  refine (H45.out _).mono ?_
  rintro e wx ⟨rfl, hw⟩
  (have h0 := hw.symm); subst h0
  clear hw
  go_wp2_with fail
  refine (Lb.out _ q m K.out.dk (HT.out.below K.out.bl) (H10.out.below K.out.bl)).mono ?_
  rintro e vb ⟨rfl, hd, hg⟩
  have K := Lib.hid (K.out.line hd hg)
  have Ra := Lib.hid (Ra.out.grb hg)
  clear hd hg Lb
  have Ra := Lib.hid (Ra.out.alloc (.cells #[.string ⟨#[45, 49]⟩, .int .i64 0, .int .i64 0] 31))
  have Rb := Lib.hid (Rg.new K.out ⟨#[45, 49]⟩ 0 0)
  have K := Lib.hid (K.out.alloc (.cells #[.string ⟨#[45, 49]⟩, .int .i64 0, .int .i64 0] 31))
  go_wp2_with fail
  refine (H4540.out _).mono ?_
  rintro e wx ⟨rfl, hw⟩
  (have h0 := hw.symm); subst h0
  clear hw
  go_wp2_with fail
  refine (H41.out _).mono ?_
  rintro e wx ⟨rfl, hw⟩
  (have h0 := hw.symm); subst h0
  clear hw
  go_wp2_with fail
  refine (Lc.out _ q m K.out.dk (HT.out.below K.out.bl) (H10.out.below K.out.bl)).mono ?_
  rintro e vc ⟨rfl, hd, hg⟩
  have K := Lib.hid (K.out.line hd hg)
  have Ra := Lib.hid (Ra.out.grb hg)
  have Rb := Lib.hid (Rb.out.grb hg)
  clear hd hg Lc
  have Ra := Lib.hid (Ra.out.alloc (.cells #[.string ⟨#[45, 49]⟩, .int .i64 0, .int .i64 0] 31))
  have Rb := Lib.hid (Rb.out.alloc (.cells #[.string ⟨#[45, 49]⟩, .int .i64 0, .int .i64 0] 31))
  have Rc := Lib.hid (Rg.new K.out ⟨#[45, 49]⟩ 0 0)
  have K := Lib.hid (K.out.alloc (.cells #[.string ⟨#[45, 49]⟩, .int .i64 0, .int .i64 0] 31))
  go_wp2_with fail
  refine (Habs.out _).mono ?_
  rintro e wx ⟨rfl, hw⟩
  (have h0 := hw.symm); subst h0
  clear hw
  go_wp2_with fail
  refine (H41m.out _).mono ?_
  rintro e wx ⟨rfl, hw⟩
  (have h0 := hw.symm); subst h0
  clear hw
  go_wp2_with fail
  refine (Lf.out _ q m K.out.dk (HT.out.below K.out.bl) (H10.out.below K.out.bl)).mono ?_
  rintro e vf ⟨rfl, hd, hg⟩
  have K := Lib.hid (K.out.line hd hg)
  have Ra := Lib.hid (Ra.out.grb hg)
  have Rb := Lib.hid (Rb.out.grb hg)
  have Rc := Lib.hid (Rc.out.grb hg)
  clear hd hg Lf
  have Ra := Lib.hid (Ra.out.alloc (.cells #[.string ⟨#[49]⟩, .int .i64 0, .int .i64 0] 31))
  have Rb := Lib.hid (Rb.out.alloc (.cells #[.string ⟨#[49]⟩, .int .i64 0, .int .i64 0] 31))
  have Rc := Lib.hid (Rc.out.alloc (.cells #[.string ⟨#[49]⟩, .int .i64 0, .int .i64 0] 31))
  have Rf := Lib.hid (Rg.new K.out ⟨#[49]⟩ 0 0)
  have K := Lib.hid (K.out.alloc (.cells #[.string ⟨#[49]⟩, .int .i64 0, .int .i64 0] 31))
  obtain ⟨ff0, ff1, ff2, _⟩ := Rf.out.1
  go_wp2_with fail
  refine (HIs.out ⟨#[49]⟩ _).mono ?_
  rintro e u0 ⟨rfl, hb⟩
  have K := Lib.hid (K.out.below hb)
  have Rc := Lib.hid (Rc.out.below hb)
  have Ra := Lib.hid (Ra.out.below hb)
  have Rb := Lib.hid (Rb.out.below hb)
  clear hb ff0 ff1 ff2
  obtain ⟨cc0, cc1, cc2, _⟩ := Rc.out.1
  go_wp2_with fail
  refine (HIs.out ⟨#[45, 49]⟩ _).mono ?_
  rintro e u1 ⟨rfl, hb⟩
  have K := Lib.hid (K.out.below hb)
  have Ra := Lib.hid (Ra.out.below hb)
  have Rb := Lib.hid (Rb.out.below hb)
  clear hb cc0 cc1 cc2
  obtain ⟨aa0, aa1, aa2, _⟩ := Ra.out.1
  go_wp2_with fail
  refine (HIs.out ⟨#[49]⟩ _).mono ?_
  rintro e u2 ⟨rfl, hb⟩
  have K := Lib.hid (K.out.below hb)
  have Rb := Lib.hid (Rb.out.below hb)
  clear hb aa0 aa1 aa2
  obtain ⟨bb0, bb1, bb2, _⟩ := Rb.out.1
  go_wp2_with fail
  refine (HIs.out ⟨#[45, 49]⟩ _).mono ?_
  rintro e u3 ⟨rfl, hb⟩
  have K := Lib.hid (K.out.below hb)
  clear hb bb0 bb1 bb2
  go_wp2_with fail
  exact bodyPost_ret (v := .bool true) (by simp [results, Tryz.results5, go_sem]) rfl ⟨rfl, K.out.bl⟩

set_option maxRecDepth 100000 in
set_option maxHeartbeats 4000000 in
theorem depth_case3 (k : Nat) (hk : 25 < k ∧ k ≤ 50) (he : k % 2 = 0) (w : World) (ht : Tab64 w) (h10 : Tab10 w) :
    Calls Tryz.prog 5 #[.int .u8 (k : Int)] w fun e w' => e = .returned (.bool true) ∧ Below w.heap.size w w' := by
  have hk255 : k ≤ 255 := by omega
  have hm190 : k % 190 ≤ 189 := by omega
  have H40 := Lib.hid (fun W => times_walk [40] k (by decide) (by omega) W)
  have H41 := Lib.hid (fun W => times_walk [41] k (by decide) (by omega) W)
  have H45 := Lib.hid (fun W => times_walk [45] k (by decide) (by omega) W)
  have H4540 := Lib.hid (fun W => times_walk [45, 40] k (by decide) (by omega) W)
  have Habs := Lib.hid (fun W => times_walk [97, 98, 115, 40] (k % 190) (by decide) (by omega) W)
  have H41m := Lib.hid (fun W => times_walk [41] (k % 190) (by decide) (by omega) W)
  have z1 := rep_size [40] (by decide) k hk255
  have z2 := rep_size [41] (by decide) k hk255
  have z3 := rep_size [45] (by decide) k hk255
  have z4 := rep_size [45, 40] (by decide) k hk255
  have z5 := rep_size [97, 98, 115, 40] (by decide) (k % 190) (by omega)
  have z6 := rep_size [41] (by decide) (k % 190) (by omega)
  have La := Lib.hid (fun (W : World) q m (h : DkB W q m false false) (t : Tab64 W) (t10 : Tab10 W) => show Calls Tryz.prog 11 #[.pointer (some ⟨q, 0, none⟩), .string ((bs (rep [40] k) ++ ⟨#[49]⟩) ++ bs (rep [41] k))] W fun e w' => e = .returned (.agg #[.string ⟨#[49]⟩, .int .i64 0, .int .i64 0]) ∧ DkB w' q m false false ∧ W.grownBy w' (some q) from by rw [text_A]; exact depth_a h t t10 (by omega))
  have Lb := Lib.hid (fun (W : World) q m (h : DkB W q m false false) (t : Tab64 W) (t10 : Tab10 W) => show Calls Tryz.prog 11 #[.pointer (some ⟨q, 0, none⟩), .string (bs (rep [45] k) ++ ⟨#[49]⟩)] W fun e w' => e = .returned (.agg #[.string ⟨#[49]⟩, .int .i64 0, .int .i64 0]) ∧ DkB w' q m false false ∧ W.grownBy w' (some q) from by rw [text_B]; exact (by have := depth_b h t t10 (k := k) (by omega); rw [if_pos he] at this; exact this))
  have Lc := Lib.hid (fun (W : World) q m (h : DkB W q m false false) (t : Tab64 W) (t10 : Tab10 W) => show Calls Tryz.prog 11 #[.pointer (some ⟨q, 0, none⟩), .string ((bs (rep [45, 40] k) ++ ⟨#[49]⟩) ++ bs (rep [41] k))] W fun e w' => e = .returned (.agg #[.string ⟨#[]⟩, .int .i64 50, .int .i64 11]) ∧ DkB w' q m false false ∧ W.grownBy w' (some q) from by rw [text_C]; exact depth_c_no h t t10 (by omega) (by omega))
  have Lf := Lib.hid (fun (W : World) q m (h : DkB W q m false false) (t : Tab64 W) (t10 : Tab10 W) => show Calls Tryz.prog 11 #[.pointer (some ⟨q, 0, none⟩), .string ((bs (rep [97, 98, 115, 40] (k % 190)) ++ ⟨#[49]⟩) ++ bs (rep [41] (k % 190)))] W fun e w' => e = .returned (.agg #[.string ⟨#[49]⟩, .int .i64 0, .int .i64 0]) ∧ DkB w' q m false false ∧ W.grownBy w' (some q) from by rw [text_F]; exact depth_f h t t10 (by omega))
  have HNw := Lib.hid (fun W => new_walk W)
  have HIs := Lib.hid (fun R W => lawis_walk R W)
  have HFl := Lib.hid (fun a e W => lawfails_walk a e W)
  have HT := Lib.hid ht
  have H10 := Lib.hid h10
  generalize bs (rep [40] k) = p40 at *
  generalize bs (rep [41] k) = p41 at *
  generalize bs (rep [45] k) = p45 at *
  generalize bs (rep [45, 40] k) = p4540 at *
  generalize bs (rep [97, 98, 115, 40] (k % 190)) = pabs at *
  generalize bs (rep [41] (k % 190)) = p41m at *
  have c0 : IntKind.i64.wrap (k : Int) = (k : Int) := by rw [IntKind.wrap_i64]; omega
  have c1 : Int.tmod (k : Int) 190 = ((k % 190 : Nat) : Int) := by rw [Int.tmod_eq_emod_of_nonneg (by omega)]; omega
  have c2 : IntKind.i64.wrap ((k % 190 : Nat) : Int) = ((k % 190 : Nat) : Int) := by rw [IntKind.wrap_i64]; omega
  have c3 : Int.tmod (k : Int) 2 = 0 := by rw [Int.tmod_eq_emod_of_nonneg (by omega)]; omega
  have g1 : ((k % 190 : Nat) : Int) ≤ 50 := by omega
  have g2 : ¬ (50 : Int) < ((k % 190 : Nat) : Int) := by omega
  have g3 : (25 : Int) < (k : Int) := by omega
  have g4 : ¬ (k : Int) ≤ 25 := by omega
  have g5 : ¬ (50 : Int) < (k : Int) := by omega
  generalize hmm : k % 190 = mm at *
  clear ht h10 hk he hk255 hm190 hmm
  go_enter Tryz.func5, Tryz.ntmps5
  go_wp2_with fail
  refine (HNw.out w).mono ?_
  rintro e w1 ⟨rfl, ⟨m, hm⟩, hb1⟩
  have K := Lib.hid (show Dk w w1 w.heap.size m false from ⟨hb1, hm, Nat.le_refl _⟩)
  generalize hq : w.heap.size = q at K hm ⊢
  have HQ := Lib.hid hq
  clear hm hb1 HNw hq
  go_wp2_with fail
  refine (H40.out _).mono ?_
  rintro e wx ⟨rfl, hw⟩
  (have h0 := hw.symm); subst h0
  clear hw
  go_wp2_with fail
  refine (H41.out _).mono ?_
  rintro e wx ⟨rfl, hw⟩
  (have h0 := hw.symm); subst h0
  clear hw
  go_wp2_with fail
  refine (La.out _ q m K.out.dk (HT.out.below K.out.bl) (H10.out.below K.out.bl)).mono ?_
  rintro e va ⟨rfl, hd, hg⟩
  have K := Lib.hid (K.out.line hd hg)
  clear hd hg La
  have Ra := Lib.hid (Rg.new K.out ⟨#[49]⟩ 0 0)
  have K := Lib.hid (K.out.alloc (.cells #[.string ⟨#[49]⟩, .int .i64 0, .int .i64 0] 31))
  go_wp2_with fail
  refine (H45.out _).mono ?_
  rintro e wx ⟨rfl, hw⟩
  (have h0 := hw.symm); subst h0
  clear hw
  go_wp2_with fail
  refine (Lb.out _ q m K.out.dk (HT.out.below K.out.bl) (H10.out.below K.out.bl)).mono ?_
  rintro e vb ⟨rfl, hd, hg⟩
  have K := Lib.hid (K.out.line hd hg)
  have Ra := Lib.hid (Ra.out.grb hg)
  clear hd hg Lb
  have Ra := Lib.hid (Ra.out.alloc (.cells #[.string ⟨#[49]⟩, .int .i64 0, .int .i64 0] 31))
  have Rb := Lib.hid (Rg.new K.out ⟨#[49]⟩ 0 0)
  have K := Lib.hid (K.out.alloc (.cells #[.string ⟨#[49]⟩, .int .i64 0, .int .i64 0] 31))
  go_wp2_with fail
  refine (H4540.out _).mono ?_
  rintro e wx ⟨rfl, hw⟩
  (have h0 := hw.symm); subst h0
  clear hw
  go_wp2_with fail
  refine (H41.out _).mono ?_
  rintro e wx ⟨rfl, hw⟩
  (have h0 := hw.symm); subst h0
  clear hw
  go_wp2_with fail
  refine (Lc.out _ q m K.out.dk (HT.out.below K.out.bl) (H10.out.below K.out.bl)).mono ?_
  rintro e vc ⟨rfl, hd, hg⟩
  have K := Lib.hid (K.out.line hd hg)
  have Ra := Lib.hid (Ra.out.grb hg)
  have Rb := Lib.hid (Rb.out.grb hg)
  clear hd hg Lc
  have Ra := Lib.hid (Ra.out.alloc (.cells #[.string ⟨#[]⟩, .int .i64 50, .int .i64 11] 31))
  have Rb := Lib.hid (Rb.out.alloc (.cells #[.string ⟨#[]⟩, .int .i64 50, .int .i64 11] 31))
  have Rc := Lib.hid (Rg.new K.out ⟨#[]⟩ 50 11)
  have K := Lib.hid (K.out.alloc (.cells #[.string ⟨#[]⟩, .int .i64 50, .int .i64 11] 31))
  go_wp2_with fail
  refine (Habs.out _).mono ?_
  rintro e wx ⟨rfl, hw⟩
  (have h0 := hw.symm); subst h0
  clear hw
  go_wp2_with fail
  refine (H41m.out _).mono ?_
  rintro e wx ⟨rfl, hw⟩
  (have h0 := hw.symm); subst h0
  clear hw
  go_wp2_with fail
  refine (Lf.out _ q m K.out.dk (HT.out.below K.out.bl) (H10.out.below K.out.bl)).mono ?_
  rintro e vf ⟨rfl, hd, hg⟩
  have K := Lib.hid (K.out.line hd hg)
  have Ra := Lib.hid (Ra.out.grb hg)
  have Rb := Lib.hid (Rb.out.grb hg)
  have Rc := Lib.hid (Rc.out.grb hg)
  clear hd hg Lf
  have Ra := Lib.hid (Ra.out.alloc (.cells #[.string ⟨#[49]⟩, .int .i64 0, .int .i64 0] 31))
  have Rb := Lib.hid (Rb.out.alloc (.cells #[.string ⟨#[49]⟩, .int .i64 0, .int .i64 0] 31))
  have Rc := Lib.hid (Rc.out.alloc (.cells #[.string ⟨#[49]⟩, .int .i64 0, .int .i64 0] 31))
  have Rf := Lib.hid (Rg.new K.out ⟨#[49]⟩ 0 0)
  have K := Lib.hid (K.out.alloc (.cells #[.string ⟨#[49]⟩, .int .i64 0, .int .i64 0] 31))
  obtain ⟨ff0, ff1, ff2, _⟩ := Rf.out.1
  go_wp2_with fail
  refine (HIs.out ⟨#[49]⟩ _).mono ?_
  rintro e u0 ⟨rfl, hb⟩
  have K := Lib.hid (K.out.below hb)
  have Rc := Lib.hid (Rc.out.below hb)
  have Ra := Lib.hid (Ra.out.below hb)
  have Rb := Lib.hid (Rb.out.below hb)
  clear hb ff0 ff1 ff2
  obtain ⟨cc0, cc1, cc2, _⟩ := Rc.out.1
  go_wp2_with fail
  refine (HFl.out 50 11 _).mono ?_
  rintro e u1 ⟨rfl, hb⟩
  have K := Lib.hid (K.out.below hb)
  have Ra := Lib.hid (Ra.out.below hb)
  have Rb := Lib.hid (Rb.out.below hb)
  clear hb cc0 cc1 cc2
  obtain ⟨aa0, aa1, aa2, _⟩ := Ra.out.1
  go_wp2_with fail
  refine (HIs.out ⟨#[49]⟩ _).mono ?_
  rintro e u2 ⟨rfl, hb⟩
  have K := Lib.hid (K.out.below hb)
  have Rb := Lib.hid (Rb.out.below hb)
  clear hb aa0 aa1 aa2
  obtain ⟨bb0, bb1, bb2, _⟩ := Rb.out.1
  go_wp2_with fail
  refine (HIs.out ⟨#[49]⟩ _).mono ?_
  rintro e u3 ⟨rfl, hb⟩
  have K := Lib.hid (K.out.below hb)
  clear hb bb0 bb1 bb2
  go_wp2_with fail
  exact bodyPost_ret (v := .bool true) (by simp [results, Tryz.results5, go_sem]) rfl ⟨rfl, K.out.bl⟩

set_option maxRecDepth 100000 in
set_option maxHeartbeats 4000000 in
theorem depth_case4 (k : Nat) (hk : 25 < k ∧ k ≤ 50) (he : k % 2 = 1) (w : World) (ht : Tab64 w) (h10 : Tab10 w) :
    Calls Tryz.prog 5 #[.int .u8 (k : Int)] w fun e w' => e = .returned (.bool true) ∧ Below w.heap.size w w' := by
  have hk255 : k ≤ 255 := by omega
  have hm190 : k % 190 ≤ 189 := by omega
  have H40 := Lib.hid (fun W => times_walk [40] k (by decide) (by omega) W)
  have H41 := Lib.hid (fun W => times_walk [41] k (by decide) (by omega) W)
  have H45 := Lib.hid (fun W => times_walk [45] k (by decide) (by omega) W)
  have H4540 := Lib.hid (fun W => times_walk [45, 40] k (by decide) (by omega) W)
  have Habs := Lib.hid (fun W => times_walk [97, 98, 115, 40] (k % 190) (by decide) (by omega) W)
  have H41m := Lib.hid (fun W => times_walk [41] (k % 190) (by decide) (by omega) W)
  have z1 := rep_size [40] (by decide) k hk255
  have z2 := rep_size [41] (by decide) k hk255
  have z3 := rep_size [45] (by decide) k hk255
  have z4 := rep_size [45, 40] (by decide) k hk255
  have z5 := rep_size [97, 98, 115, 40] (by decide) (k % 190) (by omega)
  have z6 := rep_size [41] (by decide) (k % 190) (by omega)
  have La := Lib.hid (fun (W : World) q m (h : DkB W q m false false) (t : Tab64 W) (t10 : Tab10 W) => show Calls Tryz.prog 11 #[.pointer (some ⟨q, 0, none⟩), .string ((bs (rep [40] k) ++ ⟨#[49]⟩) ++ bs (rep [41] k))] W fun e w' => e = .returned (.agg #[.string ⟨#[49]⟩, .int .i64 0, .int .i64 0]) ∧ DkB w' q m false false ∧ W.grownBy w' (some q) from by rw [text_A]; exact depth_a h t t10 (by omega))
  have Lb := Lib.hid (fun (W : World) q m (h : DkB W q m false false) (t : Tab64 W) (t10 : Tab10 W) => show Calls Tryz.prog 11 #[.pointer (some ⟨q, 0, none⟩), .string (bs (rep [45] k) ++ ⟨#[49]⟩)] W fun e w' => e = .returned (.agg #[.string ⟨#[45, 49]⟩, .int .i64 0, .int .i64 0]) ∧ DkB w' q m false false ∧ W.grownBy w' (some q) from by rw [text_B]; exact (by have := depth_b h t t10 (k := k) (by omega); rw [if_neg (by omega)] at this; exact this))
  have Lc := Lib.hid (fun (W : World) q m (h : DkB W q m false false) (t : Tab64 W) (t10 : Tab10 W) => show Calls Tryz.prog 11 #[.pointer (some ⟨q, 0, none⟩), .string ((bs (rep [45, 40] k) ++ ⟨#[49]⟩) ++ bs (rep [41] k))] W fun e w' => e = .returned (.agg #[.string ⟨#[]⟩, .int .i64 50, .int .i64 11]) ∧ DkB w' q m false false ∧ W.grownBy w' (some q) from by rw [text_C]; exact depth_c_no h t t10 (by omega) (by omega))
  have Lf := Lib.hid (fun (W : World) q m (h : DkB W q m false false) (t : Tab64 W) (t10 : Tab10 W) => show Calls Tryz.prog 11 #[.pointer (some ⟨q, 0, none⟩), .string ((bs (rep [97, 98, 115, 40] (k % 190)) ++ ⟨#[49]⟩) ++ bs (rep [41] (k % 190)))] W fun e w' => e = .returned (.agg #[.string ⟨#[49]⟩, .int .i64 0, .int .i64 0]) ∧ DkB w' q m false false ∧ W.grownBy w' (some q) from by rw [text_F]; exact depth_f h t t10 (by omega))
  have HNw := Lib.hid (fun W => new_walk W)
  have HIs := Lib.hid (fun R W => lawis_walk R W)
  have HFl := Lib.hid (fun a e W => lawfails_walk a e W)
  have HT := Lib.hid ht
  have H10 := Lib.hid h10
  generalize bs (rep [40] k) = p40 at *
  generalize bs (rep [41] k) = p41 at *
  generalize bs (rep [45] k) = p45 at *
  generalize bs (rep [45, 40] k) = p4540 at *
  generalize bs (rep [97, 98, 115, 40] (k % 190)) = pabs at *
  generalize bs (rep [41] (k % 190)) = p41m at *
  have c0 : IntKind.i64.wrap (k : Int) = (k : Int) := by rw [IntKind.wrap_i64]; omega
  have c1 : Int.tmod (k : Int) 190 = ((k % 190 : Nat) : Int) := by rw [Int.tmod_eq_emod_of_nonneg (by omega)]; omega
  have c2 : IntKind.i64.wrap ((k % 190 : Nat) : Int) = ((k % 190 : Nat) : Int) := by rw [IntKind.wrap_i64]; omega
  have c3 : Int.tmod (k : Int) 2 = 1 := by rw [Int.tmod_eq_emod_of_nonneg (by omega)]; omega
  have g1 : ((k % 190 : Nat) : Int) ≤ 50 := by omega
  have g2 : ¬ (50 : Int) < ((k % 190 : Nat) : Int) := by omega
  have g3 : (25 : Int) < (k : Int) := by omega
  have g4 : ¬ (k : Int) ≤ 25 := by omega
  have g5 : ¬ (50 : Int) < (k : Int) := by omega
  generalize hmm : k % 190 = mm at *
  clear ht h10 hk he hk255 hm190 hmm
  go_enter Tryz.func5, Tryz.ntmps5
  go_wp2_with fail
  refine (HNw.out w).mono ?_
  rintro e w1 ⟨rfl, ⟨m, hm⟩, hb1⟩
  have K := Lib.hid (show Dk w w1 w.heap.size m false from ⟨hb1, hm, Nat.le_refl _⟩)
  generalize hq : w.heap.size = q at K hm ⊢
  have HQ := Lib.hid hq
  clear hm hb1 HNw hq
  go_wp2_with fail
  refine (H40.out _).mono ?_
  rintro e wx ⟨rfl, hw⟩
  (have h0 := hw.symm); subst h0
  clear hw
  go_wp2_with fail
  refine (H41.out _).mono ?_
  rintro e wx ⟨rfl, hw⟩
  (have h0 := hw.symm); subst h0
  clear hw
  go_wp2_with fail
  refine (La.out _ q m K.out.dk (HT.out.below K.out.bl) (H10.out.below K.out.bl)).mono ?_
  rintro e va ⟨rfl, hd, hg⟩
  have K := Lib.hid (K.out.line hd hg)
  clear hd hg La
  have Ra := Lib.hid (Rg.new K.out ⟨#[49]⟩ 0 0)
  have K := Lib.hid (K.out.alloc (.cells #[.string ⟨#[49]⟩, .int .i64 0, .int .i64 0] 31))
  go_wp2_with fail
  refine (H45.out _).mono ?_
  rintro e wx ⟨rfl, hw⟩
  (have h0 := hw.symm); subst h0
  clear hw
  go_wp2_with fail
  refine (Lb.out _ q m K.out.dk (HT.out.below K.out.bl) (H10.out.below K.out.bl)).mono ?_
  rintro e vb ⟨rfl, hd, hg⟩
  have K := Lib.hid (K.out.line hd hg)
  have Ra := Lib.hid (Ra.out.grb hg)
  clear hd hg Lb
  have Ra := Lib.hid (Ra.out.alloc (.cells #[.string ⟨#[45, 49]⟩, .int .i64 0, .int .i64 0] 31))
  have Rb := Lib.hid (Rg.new K.out ⟨#[45, 49]⟩ 0 0)
  have K := Lib.hid (K.out.alloc (.cells #[.string ⟨#[45, 49]⟩, .int .i64 0, .int .i64 0] 31))
  go_wp2_with fail
  refine (H4540.out _).mono ?_
  rintro e wx ⟨rfl, hw⟩
  (have h0 := hw.symm); subst h0
  clear hw
  go_wp2_with fail
  refine (H41.out _).mono ?_
  rintro e wx ⟨rfl, hw⟩
  (have h0 := hw.symm); subst h0
  clear hw
  go_wp2_with fail
  refine (Lc.out _ q m K.out.dk (HT.out.below K.out.bl) (H10.out.below K.out.bl)).mono ?_
  rintro e vc ⟨rfl, hd, hg⟩
  have K := Lib.hid (K.out.line hd hg)
  have Ra := Lib.hid (Ra.out.grb hg)
  have Rb := Lib.hid (Rb.out.grb hg)
  clear hd hg Lc
  have Ra := Lib.hid (Ra.out.alloc (.cells #[.string ⟨#[]⟩, .int .i64 50, .int .i64 11] 31))
  have Rb := Lib.hid (Rb.out.alloc (.cells #[.string ⟨#[]⟩, .int .i64 50, .int .i64 11] 31))
  have Rc := Lib.hid (Rg.new K.out ⟨#[]⟩ 50 11)
  have K := Lib.hid (K.out.alloc (.cells #[.string ⟨#[]⟩, .int .i64 50, .int .i64 11] 31))
  go_wp2_with fail
  refine (Habs.out _).mono ?_
  rintro e wx ⟨rfl, hw⟩
  (have h0 := hw.symm); subst h0
  clear hw
  go_wp2_with fail
  refine (H41m.out _).mono ?_
  rintro e wx ⟨rfl, hw⟩
  (have h0 := hw.symm); subst h0
  clear hw
  go_wp2_with fail
  refine (Lf.out _ q m K.out.dk (HT.out.below K.out.bl) (H10.out.below K.out.bl)).mono ?_
  rintro e vf ⟨rfl, hd, hg⟩
  have K := Lib.hid (K.out.line hd hg)
  have Ra := Lib.hid (Ra.out.grb hg)
  have Rb := Lib.hid (Rb.out.grb hg)
  have Rc := Lib.hid (Rc.out.grb hg)
  clear hd hg Lf
  have Ra := Lib.hid (Ra.out.alloc (.cells #[.string ⟨#[49]⟩, .int .i64 0, .int .i64 0] 31))
  have Rb := Lib.hid (Rb.out.alloc (.cells #[.string ⟨#[49]⟩, .int .i64 0, .int .i64 0] 31))
  have Rc := Lib.hid (Rc.out.alloc (.cells #[.string ⟨#[49]⟩, .int .i64 0, .int .i64 0] 31))
  have Rf := Lib.hid (Rg.new K.out ⟨#[49]⟩ 0 0)
  have K := Lib.hid (K.out.alloc (.cells #[.string ⟨#[49]⟩, .int .i64 0, .int .i64 0] 31))
  obtain ⟨ff0, ff1, ff2, _⟩ := Rf.out.1
  go_wp2_with fail
  refine (HIs.out ⟨#[49]⟩ _).mono ?_
  rintro e u0 ⟨rfl, hb⟩
  have K := Lib.hid (K.out.below hb)
  have Rc := Lib.hid (Rc.out.below hb)
  have Ra := Lib.hid (Ra.out.below hb)
  have Rb := Lib.hid (Rb.out.below hb)
  clear hb ff0 ff1 ff2
  obtain ⟨cc0, cc1, cc2, _⟩ := Rc.out.1
  go_wp2_with fail
  refine (HFl.out 50 11 _).mono ?_
  rintro e u1 ⟨rfl, hb⟩
  have K := Lib.hid (K.out.below hb)
  have Ra := Lib.hid (Ra.out.below hb)
  have Rb := Lib.hid (Rb.out.below hb)
  clear hb cc0 cc1 cc2
  obtain ⟨aa0, aa1, aa2, _⟩ := Ra.out.1
  go_wp2_with fail
  refine (HIs.out ⟨#[49]⟩ _).mono ?_
  rintro e u2 ⟨rfl, hb⟩
  have K := Lib.hid (K.out.below hb)
  have Rb := Lib.hid (Rb.out.below hb)
  clear hb aa0 aa1 aa2
  obtain ⟨bb0, bb1, bb2, _⟩ := Rb.out.1
  go_wp2_with fail
  refine (HIs.out ⟨#[45, 49]⟩ _).mono ?_
  rintro e u3 ⟨rfl, hb⟩
  have K := Lib.hid (K.out.below hb)
  clear hb bb0 bb1 bb2
  go_wp2_with fail
  exact bodyPost_ret (v := .bool true) (by simp [results, Tryz.results5, go_sem]) rfl ⟨rfl, K.out.bl⟩

set_option maxRecDepth 100000 in
set_option maxHeartbeats 4000000 in
theorem depth_case5 (k : Nat) (hk : 50 < k ∧ k ≤ 255) (he : k % 190 ≤ 50) (w : World) (ht : Tab64 w) (h10 : Tab10 w) :
    Calls Tryz.prog 5 #[.int .u8 (k : Int)] w fun e w' => e = .returned (.bool true) ∧ Below w.heap.size w w' := by
  have hk255 : k ≤ 255 := by omega
  have hm190 : k % 190 ≤ 189 := by omega
  have H40 := Lib.hid (fun W => times_walk [40] k (by decide) (by omega) W)
  have H41 := Lib.hid (fun W => times_walk [41] k (by decide) (by omega) W)
  have H45 := Lib.hid (fun W => times_walk [45] k (by decide) (by omega) W)
  have H4540 := Lib.hid (fun W => times_walk [45, 40] k (by decide) (by omega) W)
  have Habs := Lib.hid (fun W => times_walk [97, 98, 115, 40] (k % 190) (by decide) (by omega) W)
  have H41m := Lib.hid (fun W => times_walk [41] (k % 190) (by decide) (by omega) W)
  have z1 := rep_size [40] (by decide) k hk255
  have z2 := rep_size [41] (by decide) k hk255
  have z3 := rep_size [45] (by decide) k hk255
  have z4 := rep_size [45, 40] (by decide) k hk255
  have z5 := rep_size [97, 98, 115, 40] (by decide) (k % 190) (by omega)
  have z6 := rep_size [41] (by decide) (k % 190) (by omega)
  have La := Lib.hid (fun (W : World) q m (h : DkB W q m false false) (t : Tab64 W) (t10 : Tab10 W) => show Calls Tryz.prog 11 #[.pointer (some ⟨q, 0, none⟩), .string ((bs (rep [40] k) ++ ⟨#[49]⟩) ++ bs (rep [41] k))] W fun e w' => e = .returned (.agg #[.string ⟨#[]⟩, .int .i64 50, .int .i64 11]) ∧ DkB w' q m false false ∧ W.grownBy w' (some q) from by rw [text_A]; exact depth_a_no h t t10 (by omega) (by omega))
  have Lb := Lib.hid (fun (W : World) q m (h : DkB W q m false false) (t : Tab64 W) (t10 : Tab10 W) => show Calls Tryz.prog 11 #[.pointer (some ⟨q, 0, none⟩), .string (bs (rep [45] k) ++ ⟨#[49]⟩)] W fun e w' => e = .returned (.agg #[.string ⟨#[]⟩, .int .i64 50, .int .i64 11]) ∧ DkB w' q m false false ∧ W.grownBy w' (some q) from by rw [text_B]; exact depth_b_no h t t10 (by omega) (by omega))
  have Lc := Lib.hid (fun (W : World) q m (h : DkB W q m false false) (t : Tab64 W) (t10 : Tab10 W) => show Calls Tryz.prog 11 #[.pointer (some ⟨q, 0, none⟩), .string ((bs (rep [45, 40] k) ++ ⟨#[49]⟩) ++ bs (rep [41] k))] W fun e w' => e = .returned (.agg #[.string ⟨#[]⟩, .int .i64 50, .int .i64 11]) ∧ DkB w' q m false false ∧ W.grownBy w' (some q) from by rw [text_C]; exact depth_c_no h t t10 (by omega) (by omega))
  have Lf := Lib.hid (fun (W : World) q m (h : DkB W q m false false) (t : Tab64 W) (t10 : Tab10 W) => show Calls Tryz.prog 11 #[.pointer (some ⟨q, 0, none⟩), .string ((bs (rep [97, 98, 115, 40] (k % 190)) ++ ⟨#[49]⟩) ++ bs (rep [41] (k % 190)))] W fun e w' => e = .returned (.agg #[.string ⟨#[49]⟩, .int .i64 0, .int .i64 0]) ∧ DkB w' q m false false ∧ W.grownBy w' (some q) from by rw [text_F]; exact depth_f h t t10 (by omega))
  have HNw := Lib.hid (fun W => new_walk W)
  have HIs := Lib.hid (fun R W => lawis_walk R W)
  have HFl := Lib.hid (fun a e W => lawfails_walk a e W)
  have HT := Lib.hid ht
  have H10 := Lib.hid h10
  generalize bs (rep [40] k) = p40 at *
  generalize bs (rep [41] k) = p41 at *
  generalize bs (rep [45] k) = p45 at *
  generalize bs (rep [45, 40] k) = p4540 at *
  generalize bs (rep [97, 98, 115, 40] (k % 190)) = pabs at *
  generalize bs (rep [41] (k % 190)) = p41m at *
  have c0 : IntKind.i64.wrap (k : Int) = (k : Int) := by rw [IntKind.wrap_i64]; omega
  have c1 : Int.tmod (k : Int) 190 = ((k % 190 : Nat) : Int) := by rw [Int.tmod_eq_emod_of_nonneg (by omega)]; omega
  have c2 : IntKind.i64.wrap ((k % 190 : Nat) : Int) = ((k % 190 : Nat) : Int) := by rw [IntKind.wrap_i64]; omega
  have g1 : ((k % 190 : Nat) : Int) ≤ 50 := by omega
  have g2 : ¬ (50 : Int) < ((k % 190 : Nat) : Int) := by omega
  have g3 : (25 : Int) < (k : Int) := by omega
  have g4 : ¬ (k : Int) ≤ 25 := by omega
  have g5 : (50 : Int) < (k : Int) := by omega
  generalize hmm : k % 190 = mm at *
  clear ht h10 hk he hk255 hm190 hmm
  go_enter Tryz.func5, Tryz.ntmps5
  go_wp2_with fail
  refine (HNw.out w).mono ?_
  rintro e w1 ⟨rfl, ⟨m, hm⟩, hb1⟩
  have K := Lib.hid (show Dk w w1 w.heap.size m false from ⟨hb1, hm, Nat.le_refl _⟩)
  generalize hq : w.heap.size = q at K hm ⊢
  have HQ := Lib.hid hq
  clear hm hb1 HNw hq
  go_wp2_with fail
  refine (H40.out _).mono ?_
  rintro e wx ⟨rfl, hw⟩
  (have h0 := hw.symm); subst h0
  clear hw
  go_wp2_with fail
  refine (H41.out _).mono ?_
  rintro e wx ⟨rfl, hw⟩
  (have h0 := hw.symm); subst h0
  clear hw
  go_wp2_with fail
  refine (La.out _ q m K.out.dk (HT.out.below K.out.bl) (H10.out.below K.out.bl)).mono ?_
  rintro e va ⟨rfl, hd, hg⟩
  have K := Lib.hid (K.out.line hd hg)
  clear hd hg La
  have Ra := Lib.hid (Rg.new K.out ⟨#[]⟩ 50 11)
  have K := Lib.hid (K.out.alloc (.cells #[.string ⟨#[]⟩, .int .i64 50, .int .i64 11] 31))
  go_wp2_with fail
  refine (H45.out _).mono ?_
  rintro e wx ⟨rfl, hw⟩
  (have h0 := hw.symm); subst h0
  clear hw
  go_wp2_with fail
  refine (Lb.out _ q m K.out.dk (HT.out.below K.out.bl) (H10.out.below K.out.bl)).mono ?_
  rintro e vb ⟨rfl, hd, hg⟩
  have K := Lib.hid (K.out.line hd hg)
  have Ra := Lib.hid (Ra.out.grb hg)
  clear hd hg Lb
  have Ra := Lib.hid (Ra.out.alloc (.cells #[.string ⟨#[]⟩, .int .i64 50, .int .i64 11] 31))
  have Rb := Lib.hid (Rg.new K.out ⟨#[]⟩ 50 11)
  have K := Lib.hid (K.out.alloc (.cells #[.string ⟨#[]⟩, .int .i64 50, .int .i64 11] 31))
  go_wp2_with fail
  refine (H4540.out _).mono ?_
  rintro e wx ⟨rfl, hw⟩
  (have h0 := hw.symm); subst h0
  clear hw
  go_wp2_with fail
  refine (H41.out _).mono ?_
  rintro e wx ⟨rfl, hw⟩
  (have h0 := hw.symm); subst h0
  clear hw
  go_wp2_with fail
  refine (Lc.out _ q m K.out.dk (HT.out.below K.out.bl) (H10.out.below K.out.bl)).mono ?_
  rintro e vc ⟨rfl, hd, hg⟩
  have K := Lib.hid (K.out.line hd hg)
  have Ra := Lib.hid (Ra.out.grb hg)
  have Rb := Lib.hid (Rb.out.grb hg)
  clear hd hg Lc
  have Ra := Lib.hid (Ra.out.alloc (.cells #[.string ⟨#[]⟩, .int .i64 50, .int .i64 11] 31))
  have Rb := Lib.hid (Rb.out.alloc (.cells #[.string ⟨#[]⟩, .int .i64 50, .int .i64 11] 31))
  have Rc := Lib.hid (Rg.new K.out ⟨#[]⟩ 50 11)
  have K := Lib.hid (K.out.alloc (.cells #[.string ⟨#[]⟩, .int .i64 50, .int .i64 11] 31))
  go_wp2_with fail
  refine (Habs.out _).mono ?_
  rintro e wx ⟨rfl, hw⟩
  (have h0 := hw.symm); subst h0
  clear hw
  go_wp2_with fail
  refine (H41m.out _).mono ?_
  rintro e wx ⟨rfl, hw⟩
  (have h0 := hw.symm); subst h0
  clear hw
  go_wp2_with fail
  refine (Lf.out _ q m K.out.dk (HT.out.below K.out.bl) (H10.out.below K.out.bl)).mono ?_
  rintro e vf ⟨rfl, hd, hg⟩
  have K := Lib.hid (K.out.line hd hg)
  have Ra := Lib.hid (Ra.out.grb hg)
  have Rb := Lib.hid (Rb.out.grb hg)
  have Rc := Lib.hid (Rc.out.grb hg)
  clear hd hg Lf
  have Ra := Lib.hid (Ra.out.alloc (.cells #[.string ⟨#[49]⟩, .int .i64 0, .int .i64 0] 31))
  have Rb := Lib.hid (Rb.out.alloc (.cells #[.string ⟨#[49]⟩, .int .i64 0, .int .i64 0] 31))
  have Rc := Lib.hid (Rc.out.alloc (.cells #[.string ⟨#[49]⟩, .int .i64 0, .int .i64 0] 31))
  have Rf := Lib.hid (Rg.new K.out ⟨#[49]⟩ 0 0)
  have K := Lib.hid (K.out.alloc (.cells #[.string ⟨#[49]⟩, .int .i64 0, .int .i64 0] 31))
  obtain ⟨ff0, ff1, ff2, _⟩ := Rf.out.1
  go_wp2_with fail
  refine (HIs.out ⟨#[49]⟩ _).mono ?_
  rintro e u0 ⟨rfl, hb⟩
  have K := Lib.hid (K.out.below hb)
  have Rc := Lib.hid (Rc.out.below hb)
  have Ra := Lib.hid (Ra.out.below hb)
  have Rb := Lib.hid (Rb.out.below hb)
  clear hb ff0 ff1 ff2
  obtain ⟨cc0, cc1, cc2, _⟩ := Rc.out.1
  go_wp2_with fail
  refine (HFl.out 50 11 _).mono ?_
  rintro e u1 ⟨rfl, hb⟩
  have K := Lib.hid (K.out.below hb)
  have Ra := Lib.hid (Ra.out.below hb)
  have Rb := Lib.hid (Rb.out.below hb)
  clear hb cc0 cc1 cc2
  obtain ⟨aa0, aa1, aa2, _⟩ := Ra.out.1
  go_wp2_with fail
  refine (HFl.out 50 11 _).mono ?_
  rintro e u2 ⟨rfl, hb⟩
  have K := Lib.hid (K.out.below hb)
  have Rb := Lib.hid (Rb.out.below hb)
  clear hb aa0 aa1 aa2
  obtain ⟨bb0, bb1, bb2, _⟩ := Rb.out.1
  go_wp2_with fail
  refine (HFl.out 50 11 _).mono ?_
  rintro e u3 ⟨rfl, hb⟩
  have K := Lib.hid (K.out.below hb)
  clear hb bb0 bb1 bb2
  go_wp2_with fail
  exact bodyPost_ret (v := .bool true) (by simp [results, Tryz.results5, go_sem]) rfl ⟨rfl, K.out.bl⟩

set_option maxRecDepth 100000 in
set_option maxHeartbeats 4000000 in
theorem depth_case6 (k : Nat) (hk : 50 < k ∧ k ≤ 255) (he : 50 < k % 190) (w : World) (ht : Tab64 w) (h10 : Tab10 w) :
    Calls Tryz.prog 5 #[.int .u8 (k : Int)] w fun e w' => e = .returned (.bool true) ∧ Below w.heap.size w w' := by
  have hk255 : k ≤ 255 := by omega
  have hm190 : k % 190 ≤ 189 := by omega
  have H40 := Lib.hid (fun W => times_walk [40] k (by decide) (by omega) W)
  have H41 := Lib.hid (fun W => times_walk [41] k (by decide) (by omega) W)
  have H45 := Lib.hid (fun W => times_walk [45] k (by decide) (by omega) W)
  have H4540 := Lib.hid (fun W => times_walk [45, 40] k (by decide) (by omega) W)
  have Habs := Lib.hid (fun W => times_walk [97, 98, 115, 40] (k % 190) (by decide) (by omega) W)
  have H41m := Lib.hid (fun W => times_walk [41] (k % 190) (by decide) (by omega) W)
  have z1 := rep_size [40] (by decide) k hk255
  have z2 := rep_size [41] (by decide) k hk255
  have z3 := rep_size [45] (by decide) k hk255
  have z4 := rep_size [45, 40] (by decide) k hk255
  have z5 := rep_size [97, 98, 115, 40] (by decide) (k % 190) (by omega)
  have z6 := rep_size [41] (by decide) (k % 190) (by omega)
  have La := Lib.hid (fun (W : World) q m (h : DkB W q m false false) (t : Tab64 W) (t10 : Tab10 W) => show Calls Tryz.prog 11 #[.pointer (some ⟨q, 0, none⟩), .string ((bs (rep [40] k) ++ ⟨#[49]⟩) ++ bs (rep [41] k))] W fun e w' => e = .returned (.agg #[.string ⟨#[]⟩, .int .i64 50, .int .i64 11]) ∧ DkB w' q m false false ∧ W.grownBy w' (some q) from by rw [text_A]; exact depth_a_no h t t10 (by omega) (by omega))
  have Lb := Lib.hid (fun (W : World) q m (h : DkB W q m false false) (t : Tab64 W) (t10 : Tab10 W) => show Calls Tryz.prog 11 #[.pointer (some ⟨q, 0, none⟩), .string (bs (rep [45] k) ++ ⟨#[49]⟩)] W fun e w' => e = .returned (.agg #[.string ⟨#[]⟩, .int .i64 50, .int .i64 11]) ∧ DkB w' q m false false ∧ W.grownBy w' (some q) from by rw [text_B]; exact depth_b_no h t t10 (by omega) (by omega))
  have Lc := Lib.hid (fun (W : World) q m (h : DkB W q m false false) (t : Tab64 W) (t10 : Tab10 W) => show Calls Tryz.prog 11 #[.pointer (some ⟨q, 0, none⟩), .string ((bs (rep [45, 40] k) ++ ⟨#[49]⟩) ++ bs (rep [41] k))] W fun e w' => e = .returned (.agg #[.string ⟨#[]⟩, .int .i64 50, .int .i64 11]) ∧ DkB w' q m false false ∧ W.grownBy w' (some q) from by rw [text_C]; exact depth_c_no h t t10 (by omega) (by omega))
  have Lf := Lib.hid (fun (W : World) q m (h : DkB W q m false false) (t : Tab64 W) (t10 : Tab10 W) => show Calls Tryz.prog 11 #[.pointer (some ⟨q, 0, none⟩), .string ((bs (rep [97, 98, 115, 40] (k % 190)) ++ ⟨#[49]⟩) ++ bs (rep [41] (k % 190)))] W fun e w' => e = .returned (.agg #[.string ⟨#[]⟩, .int .i64 203, .int .i64 11]) ∧ DkB w' q m false false ∧ W.grownBy w' (some q) from by rw [text_F]; exact depth_f_no h t t10 (by omega) (by omega))
  have HNw := Lib.hid (fun W => new_walk W)
  have HIs := Lib.hid (fun R W => lawis_walk R W)
  have HFl := Lib.hid (fun a e W => lawfails_walk a e W)
  have HT := Lib.hid ht
  have H10 := Lib.hid h10
  generalize bs (rep [40] k) = p40 at *
  generalize bs (rep [41] k) = p41 at *
  generalize bs (rep [45] k) = p45 at *
  generalize bs (rep [45, 40] k) = p4540 at *
  generalize bs (rep [97, 98, 115, 40] (k % 190)) = pabs at *
  generalize bs (rep [41] (k % 190)) = p41m at *
  have c0 : IntKind.i64.wrap (k : Int) = (k : Int) := by rw [IntKind.wrap_i64]; omega
  have c1 : Int.tmod (k : Int) 190 = ((k % 190 : Nat) : Int) := by rw [Int.tmod_eq_emod_of_nonneg (by omega)]; omega
  have c2 : IntKind.i64.wrap ((k % 190 : Nat) : Int) = ((k % 190 : Nat) : Int) := by rw [IntKind.wrap_i64]; omega
  have g1 : ¬ ((k % 190 : Nat) : Int) ≤ 50 := by omega
  have g2 : (50 : Int) < ((k % 190 : Nat) : Int) := by omega
  have g3 : (25 : Int) < (k : Int) := by omega
  have g4 : ¬ (k : Int) ≤ 25 := by omega
  have g5 : (50 : Int) < (k : Int) := by omega
  generalize hmm : k % 190 = mm at *
  clear ht h10 hk he hk255 hm190 hmm
  go_enter Tryz.func5, Tryz.ntmps5
  go_wp2_with fail
  refine (HNw.out w).mono ?_
  rintro e w1 ⟨rfl, ⟨m, hm⟩, hb1⟩
  have K := Lib.hid (show Dk w w1 w.heap.size m false from ⟨hb1, hm, Nat.le_refl _⟩)
  generalize hq : w.heap.size = q at K hm ⊢
  have HQ := Lib.hid hq
  clear hm hb1 HNw hq
  go_wp2_with fail
  refine (H40.out _).mono ?_
  rintro e wx ⟨rfl, hw⟩
  (have h0 := hw.symm); subst h0
  clear hw
  go_wp2_with fail
  refine (H41.out _).mono ?_
  rintro e wx ⟨rfl, hw⟩
  (have h0 := hw.symm); subst h0
  clear hw
  go_wp2_with fail
  refine (La.out _ q m K.out.dk (HT.out.below K.out.bl) (H10.out.below K.out.bl)).mono ?_
  rintro e va ⟨rfl, hd, hg⟩
  have K := Lib.hid (K.out.line hd hg)
  clear hd hg La
  have Ra := Lib.hid (Rg.new K.out ⟨#[]⟩ 50 11)
  have K := Lib.hid (K.out.alloc (.cells #[.string ⟨#[]⟩, .int .i64 50, .int .i64 11] 31))
  go_wp2_with fail
  refine (H45.out _).mono ?_
  rintro e wx ⟨rfl, hw⟩
  (have h0 := hw.symm); subst h0
  clear hw
  go_wp2_with fail
  refine (Lb.out _ q m K.out.dk (HT.out.below K.out.bl) (H10.out.below K.out.bl)).mono ?_
  rintro e vb ⟨rfl, hd, hg⟩
  have K := Lib.hid (K.out.line hd hg)
  have Ra := Lib.hid (Ra.out.grb hg)
  clear hd hg Lb
  have Ra := Lib.hid (Ra.out.alloc (.cells #[.string ⟨#[]⟩, .int .i64 50, .int .i64 11] 31))
  have Rb := Lib.hid (Rg.new K.out ⟨#[]⟩ 50 11)
  have K := Lib.hid (K.out.alloc (.cells #[.string ⟨#[]⟩, .int .i64 50, .int .i64 11] 31))
  go_wp2_with fail
  refine (H4540.out _).mono ?_
  rintro e wx ⟨rfl, hw⟩
  (have h0 := hw.symm); subst h0
  clear hw
  go_wp2_with fail
  refine (H41.out _).mono ?_
  rintro e wx ⟨rfl, hw⟩
  (have h0 := hw.symm); subst h0
  clear hw
  go_wp2_with fail
  refine (Lc.out _ q m K.out.dk (HT.out.below K.out.bl) (H10.out.below K.out.bl)).mono ?_
  rintro e vc ⟨rfl, hd, hg⟩
  have K := Lib.hid (K.out.line hd hg)
  have Ra := Lib.hid (Ra.out.grb hg)
  have Rb := Lib.hid (Rb.out.grb hg)
  clear hd hg Lc
  have Ra := Lib.hid (Ra.out.alloc (.cells #[.string ⟨#[]⟩, .int .i64 50, .int .i64 11] 31))
  have Rb := Lib.hid (Rb.out.alloc (.cells #[.string ⟨#[]⟩, .int .i64 50, .int .i64 11] 31))
  have Rc := Lib.hid (Rg.new K.out ⟨#[]⟩ 50 11)
  have K := Lib.hid (K.out.alloc (.cells #[.string ⟨#[]⟩, .int .i64 50, .int .i64 11] 31))
  go_wp2_with fail
  refine (Habs.out _).mono ?_
  rintro e wx ⟨rfl, hw⟩
  (have h0 := hw.symm); subst h0
  clear hw
  go_wp2_with fail
  refine (H41m.out _).mono ?_
  rintro e wx ⟨rfl, hw⟩
  (have h0 := hw.symm); subst h0
  clear hw
  go_wp2_with fail
  refine (Lf.out _ q m K.out.dk (HT.out.below K.out.bl) (H10.out.below K.out.bl)).mono ?_
  rintro e vf ⟨rfl, hd, hg⟩
  have K := Lib.hid (K.out.line hd hg)
  have Ra := Lib.hid (Ra.out.grb hg)
  have Rb := Lib.hid (Rb.out.grb hg)
  have Rc := Lib.hid (Rc.out.grb hg)
  clear hd hg Lf
  have Ra := Lib.hid (Ra.out.alloc (.cells #[.string ⟨#[]⟩, .int .i64 203, .int .i64 11] 31))
  have Rb := Lib.hid (Rb.out.alloc (.cells #[.string ⟨#[]⟩, .int .i64 203, .int .i64 11] 31))
  have Rc := Lib.hid (Rc.out.alloc (.cells #[.string ⟨#[]⟩, .int .i64 203, .int .i64 11] 31))
  have Rf := Lib.hid (Rg.new K.out ⟨#[]⟩ 203 11)
  have K := Lib.hid (K.out.alloc (.cells #[.string ⟨#[]⟩, .int .i64 203, .int .i64 11] 31))
  obtain ⟨ff0, ff1, ff2, _⟩ := Rf.out.1
  go_wp2_with fail
  refine (HFl.out 203 11 _).mono ?_
  rintro e u0 ⟨rfl, hb⟩
  have K := Lib.hid (K.out.below hb)
  have Rc := Lib.hid (Rc.out.below hb)
  have Ra := Lib.hid (Ra.out.below hb)
  have Rb := Lib.hid (Rb.out.below hb)
  clear hb ff0 ff1 ff2
  obtain ⟨cc0, cc1, cc2, _⟩ := Rc.out.1
  go_wp2_with fail
  refine (HFl.out 50 11 _).mono ?_
  rintro e u1 ⟨rfl, hb⟩
  have K := Lib.hid (K.out.below hb)
  have Ra := Lib.hid (Ra.out.below hb)
  have Rb := Lib.hid (Rb.out.below hb)
  clear hb cc0 cc1 cc2
  obtain ⟨aa0, aa1, aa2, _⟩ := Ra.out.1
  go_wp2_with fail
  refine (HFl.out 50 11 _).mono ?_
  rintro e u2 ⟨rfl, hb⟩
  have K := Lib.hid (K.out.below hb)
  have Rb := Lib.hid (Rb.out.below hb)
  clear hb aa0 aa1 aa2
  obtain ⟨bb0, bb1, bb2, _⟩ := Rb.out.1
  go_wp2_with fail
  refine (HFl.out 50 11 _).mono ?_
  rintro e u3 ⟨rfl, hb⟩
  have K := Lib.hid (K.out.below hb)
  clear hb bb0 bb1 bb2
  go_wp2_with fail
  exact bodyPost_ret (v := .bool true) (by simp [results, Tryz.results5, go_sem]) rfl ⟨rfl, K.out.bl⟩

theorem depth_walk (k : Nat) (hk : k ≤ 255) (w : World) (ht : Tab64 w) (h10 : Tab10 w) :
    Calls Tryz.prog 5 #[.int .u8 (k : Int)] w fun e w' => e = .returned (.bool true) ∧ Below w.heap.size w w' := by
  by_cases c1 : k ≤ 25
  · by_cases c2 : k % 2 = 0
    · exact depth_case1 k c1 c2 w ht h10
    · exact depth_case2 k c1 (by omega) w ht h10
  by_cases c3 : k ≤ 50
  · by_cases c2 : k % 2 = 0
    · exact depth_case3 k ⟨by omega, c3⟩ c2 w ht h10
    · exact depth_case4 k ⟨by omega, c3⟩ (by omega) w ht h10
  by_cases c4 : k % 190 ≤ 50
  · exact depth_case5 k ⟨by omega, hk⟩ c4 w ht h10
  · exact depth_case6 k ⟨by omega, hk⟩ (by omega) w ht h10
end Go.Proofs.YtibjogbalmbeeaaGreatDoor
