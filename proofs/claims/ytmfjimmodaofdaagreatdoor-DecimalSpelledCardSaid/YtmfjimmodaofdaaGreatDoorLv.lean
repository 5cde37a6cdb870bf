/- Walk of the law Spelled (printed by gen_spell.py). -/
import Derived.Test.YtmfjimmodaofdaaGreatDoorQu
namespace Go.Proofs.YtmfjimmodaofdaaGreatDoor
open Go.RowKit

theorem add_run {A B : List UInt8} (C : List UInt8) {X Y Z : ByteArray} (h : A.length + B.length ≤ 1000) (e : A ++ B = C) (hX : bs A = X) (hY : bs B = Y) (hZ : bs C = Z) (W : World) : (Op.stringOp .add X Y).run Tryz.prog W = .ok (.string Z) W := by
  subst hX; subst hY; subst hZ; subst e
  rw [run_string_add_sum W (bs A) (bs B) (by rw [bs_size, bs_size]; omega), bs_append]

set_option maxRecDepth 100000 in
set_option maxHeartbeats 4000000 in
theorem spelled_walk (d : Bool) (b : Nat) (e : Int) (hb : b < 18446744073709551616) (w : World) (ht : Tab64 w) (h10 : Tab10 w) :
    Calls Tryz.prog 4 #[.bool d, .int .u64 (b : Int), .int .i64 e] w fun r w' => r = .returned (.bool true) ∧ Below w.heap.size w w' := by
  have hF := format_walk d w
  have hP := fun (x : ByteArray) (hx : x.size ≤ 9223372036854775807) W (h : Below w.heap.size w W) => dparse_walk (fmB d) (fmB_ok d) x W hx (ht.below h)
  have hS := fun W => lsign_walk d W
  have hA := fun W (h : Below w.heap.size w W) => awake_walk W (ht.below h) (h10.below h)
  have hF0 := fmB_ok d
  obtain ⟨F, hFd⟩ : ∃ F, fmB d = F := ⟨_, rfl⟩
  rw [hFd] at hF hP hS hF0
  have hil := inf_lt F hF0
  have hSl : F.S ≤ 63 := by rcases hF0 with h | h <;> subst h <;> decide
  obtain ⟨FF, hFF⟩ : ∃ FF, fmt F = FF := ⟨_, rfl⟩
  rw [hFF] at hF hP hS
  obtain ⟨SG, hSG⟩ : ∃ SG, 2 ^ F.S = SG := ⟨_, rfl⟩
  have hSG2 : SG ≤ 9223372036854775808 := by rw [← hSG]; exact Nat.pow_le_pow_right (by omega) hSl
  rw [hSG] at hS hil
  have HF := Lib.hid hF
  have HP := Lib.hid hP
  have HS := Lib.hid hS
  have HA := Lib.hid hA
  have HG := Lib.hid hSG
  have HG2 := Lib.hid (And.intro hSG2 hil)
  have HW0 := Lib.hid (lwhole_walk b hb)
  have hDl := digs_20 hb
  have hDd := digs_dec b
  have hD1 : 1 ≤ (Lib.decDigits b).length := by have := (dcV_digits b).2.2.2; omega
  clear hF hP hS hA hFd hFF hSG ht h10 hF0 hil hSl hSG2 hb
  by_cases e1 : e < -100000
  · clear HP HS HG HG2 HW0 hDl hDd hD1
    go_enter Tryz.func4, Tryz.ntmps4
    go_wp2_with fail
    refine HF.out.mono ?_
    rintro r w0 ⟨rfl, hw0⟩
    have h := hw0.symm
    subst h
    clear hw0 HF
    go_wp2_with fail
    refine (HA.out _ (Below.refl _ _)).mono ?_
    rintro r w1 ⟨rfl, hb1⟩
    go_wp2
    go_ret
    exact ⟨rfl, hb1⟩
  have e1d : decide (e < -100000) = false := decide_eq_false e1
  by_cases e2 : 100000 < e
  · clear HP HS HG HG2 HW0 hDl hDd hD1
    go_enter Tryz.func4, Tryz.ntmps4
    go_wp2_with fail
    refine HF.out.mono ?_
    rintro r w0 ⟨rfl, hw0⟩
    have h := hw0.symm
    subst h
    clear hw0 HF
    go_wp2_with fail
    refine (HA.out _ (Below.refl _ _)).mono ?_
    rintro r w1 ⟨rfl, hb1⟩
    go_wp2
    go_ret
    exact ⟨rfl, hb1⟩
  obtain ⟨D, hD⟩ : ∃ D, Lib.decDigits b = D := ⟨_, rfl⟩
  rw [hD] at HW0 hDl hDd hD1
  have HE := Lib.hid (fun y (h1 : -10000000 ≤ y) (h2 : y ≤ 10000000) W => lexp_walk y h1 h2 W)
  have HSm := Lib.hid (fun W => lsum_walk (e - 4) (by omega) (by omega) W)
  obtain ⟨n, hn⟩ : ∃ n, D.length = n := ⟨_, rfl⟩
  have HSpl : Hid (spl D e = [[48, 48, 48] ++ D ++ exS e, D ++ [48, 48] ++ exS (e - 2), D ++ [46] ++ exS e, D ++ [46, 48, 48, 48] ++ exS e, [48, 46] ++ D ++ exS (e + n), [46] ++ D ++ exS (e + n), [43] ++ D ++ exS e,
   D.take 1 ++ [46] ++ D.drop 1 ++ [69] ++ Lib.itoa (e + n - 1), D ++ [48, 48, 48, 48, 101] ++ smS (e - 4)]) := Lib.hid (by rw [← hn]; rfl)
  have l0 := exS_len e (by omega) (by omega)
  have l1 := exS_len (e - 2) (by omega) (by omega)
  have l2 := exS_len (e + n) (by omega) (by omega)
  have l3 := exS_len (e + n - 1) (by omega) (by omega)
  have l4 := (smS_form (e - 4) (by unfold vast; omega)).choose_spec.choose_spec.2.2.2.2.2
  have l5 : (Lib.decDigits (e - 4).natAbs).length ≤ 20 := digs_20 (by omega)
  have HOk := Lib.hid (fun T (hT : T ∈ spl D e) (v : Nat) (k : Int) (h : ParOk F (bs T) v k) => spl_ok (f := F) hDd hD1 hDl (by omega) (by omega) hT h)
  have HLn := Lib.hid (fun T (hT : T ∈ spl D e) => spl_len hD1 hDl (by omega) (by omega) hT)
  have HNum := Lib.hid (fun (S0 : List UInt8) (hS0 : sgOk S0) (v : Nat) (k : Int) (h : ParOk F (bs (S0 ++ D ++ exS e)) v k) => num_ok (f := F) hS0 hDd hD1 hDl (by omega) (by omega) h)
  rw [hn] at hDl hD1
  obtain ⟨DB, hDB⟩ : ∃ X, bs (D) = X := ⟨_, rfl⟩
  obtain ⟨E0, hE0⟩ : ∃ X, bs (exS e) = X := ⟨_, rfl⟩
  obtain ⟨E2, hE2⟩ : ∃ X, bs (exS (e - 2)) = X := ⟨_, rfl⟩
  obtain ⟨EL, hEL⟩ : ∃ X, bs (exS (e + n)) = X := ⟨_, rfl⟩
  obtain ⟨EM, hEM⟩ : ∃ X, bs (exS (e + n - 1)) = X := ⟨_, rfl⟩
  obtain ⟨SM, hSM⟩ : ∃ X, bs (smS (e - 4)) = X := ⟨_, rfl⟩
  obtain ⟨T0, hT0⟩ : ∃ X, bs (D ++ exS e) = X := ⟨_, rfl⟩
  obtain ⟨P1, hP1⟩ : ∃ X, bs ([48, 48, 48] ++ D) = X := ⟨_, rfl⟩
  obtain ⟨T1, hT1⟩ : ∃ X, bs ([48, 48, 48] ++ D ++ exS e) = X := ⟨_, rfl⟩
  obtain ⟨P2, hP2⟩ : ∃ X, bs (D ++ [48, 48]) = X := ⟨_, rfl⟩
  obtain ⟨T2, hT2⟩ : ∃ X, bs (D ++ [48, 48] ++ exS (e - 2)) = X := ⟨_, rfl⟩
  obtain ⟨P3, hP3⟩ : ∃ X, bs (D ++ [46]) = X := ⟨_, rfl⟩
  obtain ⟨T3, hT3⟩ : ∃ X, bs (D ++ [46] ++ exS e) = X := ⟨_, rfl⟩
  obtain ⟨P4, hP4⟩ : ∃ X, bs (D ++ [46, 48, 48, 48]) = X := ⟨_, rfl⟩
  obtain ⟨T4, hT4⟩ : ∃ X, bs (D ++ [46, 48, 48, 48] ++ exS e) = X := ⟨_, rfl⟩
  obtain ⟨P5, hP5⟩ : ∃ X, bs ([48, 46] ++ D) = X := ⟨_, rfl⟩
  obtain ⟨T5, hT5⟩ : ∃ X, bs ([48, 46] ++ D ++ exS (e + n)) = X := ⟨_, rfl⟩
  obtain ⟨P6, hP6⟩ : ∃ X, bs ([46] ++ D) = X := ⟨_, rfl⟩
  obtain ⟨T6, hT6⟩ : ∃ X, bs ([46] ++ D ++ exS (e + n)) = X := ⟨_, rfl⟩
  obtain ⟨P7, hP7⟩ : ∃ X, bs ([43] ++ D) = X := ⟨_, rfl⟩
  obtain ⟨T7, hT7⟩ : ∃ X, bs ([43] ++ D ++ exS e) = X := ⟨_, rfl⟩
  obtain ⟨DA, hDA⟩ : ∃ X, DB.extract 0 1 = X := ⟨_, rfl⟩
  obtain ⟨DZ, hDZ⟩ : ∃ X, DB.extract 1 DB.size = X := ⟨_, rfl⟩
  obtain ⟨EZ, hEZ⟩ : ∃ X, EM.extract 1 EM.size = X := ⟨_, rfl⟩
  have hDA2 : bs (D.take 1) = DA := by rw [← hDA, ← hDB, bs_take]
  have hDZ2 : bs (D.drop 1) = DZ := by rw [← hDZ, ← hDB, bs_size, bs_drop]
  have hEZ2 : bs (Lib.itoa (e + n - 1)) = EZ := by rw [← hEZ, ← hEM, bs_size, bs_drop]; rfl
  have hDs : DB.size = n := by rw [← hDB, bs_size, hn]
  have hEs : 1 ≤ EM.size := by rw [← hEM, bs_size]; unfold exS; simp
  have hEs2 : EM.size ≤ 100 := by rw [← hEM, bs_size]; omega
  obtain ⟨P8, hP8⟩ : ∃ X, bs (D.take 1 ++ [46]) = X := ⟨_, rfl⟩
  obtain ⟨Q8, hQ8⟩ : ∃ X, bs (D.take 1 ++ [46] ++ D.drop 1) = X := ⟨_, rfl⟩
  obtain ⟨R8, hR8⟩ : ∃ X, bs (D.take 1 ++ [46] ++ D.drop 1 ++ [69]) = X := ⟨_, rfl⟩
  obtain ⟨T8, hT8⟩ : ∃ X, bs (D.take 1 ++ [46] ++ D.drop 1 ++ [69] ++ Lib.itoa (e + n - 1)) = X := ⟨_, rfl⟩
  obtain ⟨P9, hP9⟩ : ∃ X, bs (D ++ [48, 48, 48, 48, 101]) = X := ⟨_, rfl⟩
  obtain ⟨T9, hT9⟩ : ∃ X, bs (D ++ [48, 48, 48, 48, 101] ++ smS (e - 4)) = X := ⟨_, rfl⟩
  obtain ⟨PM, hPM⟩ : ∃ X, bs ([45] ++ D) = X := ⟨_, rfl⟩
  obtain ⟨TM, hTM⟩ : ∃ X, bs ([45] ++ D ++ exS e) = X := ⟨_, rfl⟩
  have l6 : (exS (e + n - 1)).length = (Lib.itoa (e + n - 1)).length + 1 := rfl
  have HAT0 := Lib.hid (fun W => add_run (A := D) (B := exS e) (D ++ exS e) (by omega) (by simp) hDB hE0 hT0 W)
  have HRM := Lib.hid (show ⟨#[45]⟩ ++ DB ++ E0 = TM by rw [← hTM, ← hDB, ← hE0, show (⟨#[45]⟩ : ByteArray) = bs [45] from rfl, bs_append, bs_append])
  have HZz := Lib.hid (show DB.size ≤ 20 ∧ E0.size ≤ 21 ∧ E2.size ≤ 21 ∧ EL.size ≤ 21 ∧ DA.size ≤ 20 ∧ DZ.size ≤ 20 ∧ EZ.size ≤ 21 ∧ SM.size ≤ 22 from ⟨by omega, by rw [← hE0, bs_size]; exact l0, by rw [← hE2, bs_size]; exact l1, by rw [← hEL, bs_size]; exact l2, by rw [← hDA2, bs_size, List.length_take]; omega, by rw [← hDZ2, bs_size, List.length_drop]; omega, by rw [← hEZ2, bs_size]; omega, by rw [← hSM, bs_size]; omega⟩)
  have HRT1 := Lib.hid (show ⟨#[48, 48, 48]⟩ ++ DB ++ E0 = T1 by rw [← hT1, ← hDB, ← hE0, show (⟨#[48, 48, 48]⟩ : ByteArray) = bs [48, 48, 48] from rfl, bs_append, bs_append])
  have HRT2 := Lib.hid (show DB ++ ⟨#[48, 48]⟩ ++ E2 = T2 by rw [← hT2, ← hDB, ← hE2, show (⟨#[48, 48]⟩ : ByteArray) = bs [48, 48] from rfl, bs_append, bs_append])
  have HRT3 := Lib.hid (show DB ++ ⟨#[46]⟩ ++ E0 = T3 by rw [← hT3, ← hDB, ← hE0, show (⟨#[46]⟩ : ByteArray) = bs [46] from rfl, bs_append, bs_append])
  have HRT4 := Lib.hid (show DB ++ ⟨#[46, 48, 48, 48]⟩ ++ E0 = T4 by rw [← hT4, ← hDB, ← hE0, show (⟨#[46, 48, 48, 48]⟩ : ByteArray) = bs [46, 48, 48, 48] from rfl, bs_append, bs_append])
  have HRT5 := Lib.hid (show ⟨#[48, 46]⟩ ++ DB ++ EL = T5 by rw [← hT5, ← hDB, ← hEL, show (⟨#[48, 46]⟩ : ByteArray) = bs [48, 46] from rfl, bs_append, bs_append])
  have HRT6 := Lib.hid (show ⟨#[46]⟩ ++ DB ++ EL = T6 by rw [← hT6, ← hDB, ← hEL, show (⟨#[46]⟩ : ByteArray) = bs [46] from rfl, bs_append, bs_append])
  have HRT7 := Lib.hid (show ⟨#[43]⟩ ++ DB ++ E0 = T7 by rw [← hT7, ← hDB, ← hE0, show (⟨#[43]⟩ : ByteArray) = bs [43] from rfl, bs_append, bs_append])
  have HRT8 := Lib.hid (show DA ++ ⟨#[46]⟩ ++ DZ ++ ⟨#[69]⟩ ++ EZ = T8 by rw [← hT8, ← hDA2, ← hDZ2, ← hEZ2, show (⟨#[46]⟩ : ByteArray) = bs [46] from rfl, show (⟨#[69]⟩ : ByteArray) = bs [69] from rfl, bs_append, bs_append, bs_append, bs_append])
  have HRT9 := Lib.hid (show DB ++ ⟨#[48, 48, 48, 48, 101]⟩ ++ SM = T9 by rw [← hT9, ← hDB, ← hSM, show (⟨#[48, 48, 48, 48, 101]⟩ : ByteArray) = bs [48, 48, 48, 48, 101] from rfl, bs_append, bs_append])
  have HT0 := Lib.hid (show T0.size ≤ 9223372036854775807 by rw [← hT0, bs_size, List.length_append, hn]; omega)
  have HTM := Lib.hid (show TM.size ≤ 9223372036854775807 by rw [← hTM, bs_size, List.length_append, List.length_append]; show 1 + D.length + (exS e).length ≤ 9223372036854775807; omega)
  obtain ⟨Ts, hTs⟩ : ∃ Ts : Nat → ByteArray, (fun j => bs ((spl D e).getD j [])) = Ts := ⟨_, rfl⟩
  have HTs : Hid (∀ j, j < 9 → (Ts j).size ≤ 9223372036854775807 ∧ ∀ (v : Nat) (k : Int), ParOk F (Ts j) v k → k = 0 ∧ ∃ p, IsPat F (tn (dcV D) e) (td e) p ∧ p ≤ F.inf ∧ v = p) := Lib.hid fun j hj => by
    have hm : (spl D e).getD j [] ∈ spl D e := by
      have hl : (spl D e).length = 9 := rfl
      rw [List.getD_eq_getElem?_getD, List.getElem?_eq_getElem (by omega)]
      exact List.getElem_mem _
    rw [← hTs]
    exact ⟨by have := HLn.out _ hm; rw [bs_size]; omega, fun v k h => HOk.out _ hm v k h⟩
  have HTv : Hid (Ts 0 = T1 ∧ Ts 1 = T2 ∧ Ts 2 = T3 ∧ Ts 3 = T4 ∧ Ts 4 = T5 ∧ Ts 5 = T6 ∧ Ts 6 = T7 ∧ Ts 7 = T8 ∧ Ts 8 = T9) := Lib.hid (by
    subst hTs
    simp only [HSpl.out]
    exact ⟨hT1, hT2, hT3, hT4, hT5, hT6, hT7, hT8, hT9⟩)
  have HN0 : Hid (∀ (v : Nat) (k : Int), ParOk F T0 v k → k = 0 ∧ ∃ p, IsPat F (tn (dcV D) e) (td e) p ∧ p ≤ F.inf ∧ v = p) := Lib.hid fun v k h => by
    rw [← hT0] at h
    exact HNum.out [] (.inl rfl) v k h
  have HNM : Hid (∀ (v : Nat) (k : Int), ParOk F TM v k → k = 0 ∧ ∃ p, IsPat F (tn (dcV D) e) (td e) p ∧ p ≤ F.inf ∧ v = SG + p) := Lib.hid fun v k h => by
    rw [← hTM] at h
    obtain ⟨h1, p, h2, h3, h4⟩ := HNum.out [45] (.inr (.inr rfl)) v k h
    rw [decide_eq_true rfl] at h4
    unfold sgn at h4
    rw [if_pos rfl, HG.out] at h4
    exact ⟨h1, p, h2, h3, h4⟩
  have HY0 := Lib.hid (show bs (exS e) = E0 ∧ -10000000 ≤ e ∧ e ≤ 10000000 from ⟨hE0, by omega, by omega⟩)
  have HY2 := Lib.hid (show bs (exS (e - 2)) = E2 ∧ -10000000 ≤ e - 2 ∧ e - 2 ≤ 10000000 from ⟨hE2, by omega, by omega⟩)
  have HYL := Lib.hid (show bs (exS (e + (DB.size : Int))) = EL ∧ -10000000 ≤ e + (DB.size : Int) ∧ e + (DB.size : Int) ≤ 10000000 from ⟨by rw [hDs]; exact hEL, by omega, by omega⟩)
  have HYM := Lib.hid (show bs (exS (e + (DB.size : Int) - 1)) = EM ∧ -10000000 ≤ e + (DB.size : Int) - 1 ∧ e + (DB.size : Int) - 1 ≤ 10000000 from ⟨by rw [hDs]; exact hEM, by omega, by omega⟩)
  have HEe := Lib.hid (fun W => HE.out e (by omega) (by omega) W)
  have HEe2 := Lib.hid (fun W => HE.out (e - 2) (by omega) (by omega) W)
  have HEl := Lib.hid (fun W => HE.out (e + n) (by omega) (by omega) W)
  have HEm := Lib.hid (fun W => HE.out (e + n - 1) (by omega) (by omega) W)
  rw [hE0] at HEe
  rw [hE2] at HEe2
  rw [hEL] at HEl
  rw [hEM] at HEm
  rw [hSM] at HSm
  rw [hDB] at HW0
  have HDs := Lib.hid hDs
  have HEs := Lib.hid (And.intro hEs hEs2)
  have HDA := Lib.hid hDA
  have HDZ := Lib.hid hDZ
  have HEZ := Lib.hid hEZ
  have q2 : IntKind.i64.wrap (e - 2) = e - 2 := by rw [IntKind.wrap_i64]; omega
  have ql : IntKind.i64.wrap (e + (n : Int)) = e + (n : Int) := by rw [IntKind.wrap_i64]; omega
  have qm : IntKind.i64.wrap (e + (n : Int) - 1) = e + (n : Int) - 1 := by rw [IntKind.wrap_i64]; omega
  have q4 : IntKind.i64.wrap (e - 4) = e - 4 := by rw [IntKind.wrap_i64]; omega
  have Q := Lib.hid (And.intro q2 (And.intro ql (And.intro qm q4)))
  have e2' : ¬ (100000 : Int) < e := e2
  have HN1 := Lib.hid (And.intro hD1 hDl)
  clear hDB hE0 hE2 hEL hEM hSM hDA hDZ hEZ hDA2 hDZ2 hEZ2 hDs hEs hEs2 hTs hT0 hP1 hT1 hP2 hT2 hP3 hT3 hP4 hT4 hP5 hT5 hP6 hT6 hP7 hT7 hP8 hQ8 hR8 hT8 hP9 hT9 hPM hTM HSpl HOk HLn HNum HE l0 l1 l2 l3 l4 l5 l6 hn hDl hDd hD1 q2 ql qm q4
  go_enter Tryz.func4, Tryz.ntmps4
  go_wp2_with fail
  refine HF.out.mono ?_
  rintro r w0 ⟨rfl, hw0⟩
  have h := hw0.symm
  subst h
  clear hw0 HF
  go_wp2_with fail
  refine (HA.out _ (Below.refl _ _)).mono ?_
  rintro r w1 ⟨rfl, hb1⟩
  have HW1 := Lib.hid hb1
  clear hb1 HA
  go_wp2_with fail
  refine (HW0.out _).mono ?_
  rintro r w2 ⟨rfl, hb2⟩
  have HW2 := Lib.hid (below_chain HW1.out hb2)
  clear hb2 HW0 HW1
  go_wp2_with fail
  refine (HEe.out _).mono ?_
  rintro r w3 ⟨rfl, hb3⟩
  have HW3 := Lib.hid (below_chain HW2.out hb3)
  have a0 := HAT0.out
  clear hb3 HW2 HAT0
  go_wp2_with fail
  refine (HP.out T0 HT0.out _ HW3.out).mono ?_
  rintro r w4 ⟨v, k, rfl, hok, hb4⟩
  have HW4 := Lib.hid (below_chain HW3.out hb4)
  obtain ⟨rfl, p, hp1, hp2, rfl⟩ := HN0.out v k hok
  have HPt := Lib.hid (And.intro hp1 hp2)
  have hps : ¬ (SG : Int) ≤ (v : Int) := by have := HG2.out; omega
  clear hb4 hok hp1 hp2 HW3 HT0 HN0 a0
  go_wp2_with fail
  refine (HS.out _).mono ?_
  rintro r w5 ⟨rfl, hw5⟩
  have h := hw5.symm
  subst h
  clear hw5
  have HEx : Hid (∀ (y : Int) (Y : ByteArray), (bs (exS y) = Y ∧ -10000000 ≤ y ∧ y ≤ 10000000) → ∀ W, Calls Tryz.prog 19 #[.int .i64 y] W fun r w' => r = .returned (.string Y) ∧ Below W.heap.size W w') := Lib.hid fun y Y h W => by
    have := lexp_walk y h.2.1 h.2.2 W
    rwa [h.1] at this
  obtain ⟨q2, ql, qm, q4⟩ := Q.out
  have hda := HDA.out
  have hdz := HDZ.out
  have hez := HEZ.out
  have r1 : (1 : Int) ≤ (DB.size : Int) := by have := HDs.out; have := HN1.out; omega
  have r2 : (1 : Int) ≤ (EM.size : Int) := by have := HEs.out; omega
  rw [← HDs.out] at ql qm
  obtain ⟨z0, z1, z2, z3, z4, z5, z6, z7⟩ := HZz.out
  have s0 : ¬ 9223372036854775807 < 3 + DB.size := by omega
  have s1 : ¬ 9223372036854775807 < DB.size + 2 := by omega
  have s2 : ¬ 9223372036854775807 < DB.size + 1 := by omega
  have s3 : ¬ 9223372036854775807 < DB.size + 4 := by omega
  have s4 : ¬ 9223372036854775807 < 2 + DB.size := by omega
  have s5 : ¬ 9223372036854775807 < 1 + DB.size := by omega
  have s6 : ¬ 9223372036854775807 < DB.size + 5 := by omega
  have s7 : ¬ 9223372036854775807 < 3 + DB.size + E0.size := by omega
  have s8 : ¬ 9223372036854775807 < DB.size + 2 + E2.size := by omega
  have s9 : ¬ 9223372036854775807 < DB.size + 1 + E0.size := by omega
  have s10 : ¬ 9223372036854775807 < DB.size + 4 + E0.size := by omega
  have s11 : ¬ 9223372036854775807 < 2 + DB.size + EL.size := by omega
  have s12 : ¬ 9223372036854775807 < 1 + DB.size + EL.size := by omega
  have s13 : ¬ 9223372036854775807 < 1 + DB.size + E0.size := by omega
  have s14 : ¬ 9223372036854775807 < DA.size + 1 := by omega
  have s15 : ¬ 9223372036854775807 < DA.size + 1 + DZ.size := by omega
  have s16 : ¬ 9223372036854775807 < DA.size + 1 + DZ.size + 1 := by omega
  have s17 : ¬ 9223372036854775807 < DA.size + 1 + DZ.size + 1 + EZ.size := by omega
  have s18 : ¬ 9223372036854775807 < DB.size + 5 + SM.size := by omega
  have gT1 := HRT1.out
  have gT2 := HRT2.out
  have gT3 := HRT3.out
  have gT4 := HRT4.out
  have gT5 := HRT5.out
  have gT6 := HRT6.out
  have gT7 := HRT7.out
  have gT8 := HRT8.out
  have gT9 := HRT9.out
  have k1 : (⟨#[48, 48, 48]⟩ : ByteArray).size = 3 := rfl
  have k2 : (⟨#[48, 48]⟩ : ByteArray).size = 2 := rfl
  have k3 : (⟨#[46]⟩ : ByteArray).size = 1 := rfl
  have k4 : (⟨#[46, 48, 48, 48]⟩ : ByteArray).size = 4 := rfl
  have k5 : (⟨#[48, 46]⟩ : ByteArray).size = 2 := rfl
  have k6 : (⟨#[43]⟩ : ByteArray).size = 1 := rfl
  have k7 : (⟨#[69]⟩ : ByteArray).size = 1 := rfl
  have k8 : (⟨#[48, 48, 48, 48, 101]⟩ : ByteArray).size = 5 := rfl
  go_wp2_with fail
  have HBd := Lib.hid (show Below w.heap.size w w4.drew from below_chain HW4.out (below_draw' w4))
  simp only [List.append]
  go_region_held3 (fun w' => Hid (Below w.heap.size w w'))
    (first | exact HBd | exact Lib.hid (below_chain (Hid.out (by assumption)) hbx) | exact Lib.hid (below_new (Hid.out (by assumption)) _) | exact (by assumption))
    (first | (go_at_call 19; refine (HEx.out _ _ (by first | exact HY0.out | exact HY2.out | exact HYL.out | exact HYM.out) _).mono ?_; rintro r w6 ⟨rfl, hbx⟩) | (go_at_call 21; refine (HSm.out _).mono ?_; rintro r w9 ⟨rfl, hbx⟩))
  have HCl : Hid (∀ j, j < 9 → (w9.alloc (.cells #[.string T1, .string T2, .string T3, .string T4, .string T5, .string T6, .string T7, .string T8, .string T9] 9)).cell? ⟨w9.heap.size, j, none⟩ = some (.string (Ts j))) := Lib.hid fun j hj => by
    obtain ⟨t1, t2, t3, t4, t5, t6, t7, t8, t9⟩ := HTv.out
    rcases (show j = 0 ∨ j = 1 ∨ j = 2 ∨ j = 3 ∨ j = 4 ∨ j = 5 ∨ j = 6 ∨ j = 7 ∨ j = 8 by omega) with e | e | e | e | e | e | e | e | e <;> subst e
    · rw [t1]; simp
    · rw [t2]; simp
    · rw [t3]; simp
    · rw [t4]; simp
    · rw [t5]; simp
    · rw [t6]; simp
    · rw [t7]; simp
    · rw [t8]; simp
    · rw [t9]; simp
  have HWs : Hid (Below w.heap.size w (w9.alloc (.cells #[.string T1, .string T2, .string T3, .string T4, .string T5, .string T6, .string T7, .string T8, .string T9] 9))) := by assumption
  obtain ⟨ws, hws⟩ : ∃ ws, w9.alloc (.cells #[.string T1, .string T2, .string T3, .string T4, .string T5, .string T6, .string T7, .string T8, .string T9] 9) = ws := ⟨_, rfl⟩
  obtain ⟨g, hg⟩ : ∃ g, w9.heap.size = g := ⟨_, rfl⟩
  rw [hws] at HCl HWs ⊢
  rw [hg] at HCl ⊢
  clear hws hg z0 z1 z2 z3 z4 z5 z6 z7 gT1 gT2 gT3 gT4 gT5 gT6 gT7 gT8 gT9 hda hdz hez s0 s1 s2 s3 s4 s5 s6 s7 s8 s9 s10 s11 s12 s13 s14 s15 s16 s17 s18 k1 k2 k3 k4 k5 k6 k7 k8 r1 r2 q2 ql qm q4
  go_wp2_with fail
  go_loopw [111] (fun iv wr => ∃ i : Nat, iv = .int .i64 (i : Int) ∧ i ≤ 9 ∧ Hid (Below w.heap.size w wr) ∧ Hid (∀ j, j < 9 → wr.cell? ⟨g, j, none⟩ = some (.string (Ts j)))) (fun iv _ => 9 - (intOf iv).toNat)
  case atStart => exact ⟨0, rfl, by omega, HWs, HCl⟩
  case round =>
    obtain ⟨i, rfl, hi, HWr, HCr⟩ := hrel
    by_cases hlt : i < 9
    · have hli : (i : Int) < 9 := by omega
      have hi0 : (0 : Int) ≤ (i : Int) := by omega
      have hck : wr.cell? ⟨g, i, none⟩ = some (.string (Ts i)) := HCr.out i hlt
      have HLt := Lib.hid hlt
      clear hlt hi
      go_wp2_with fail
      refine (HP.out (Ts i) (HTs.out i HLt.out).1 _ HWr.out).mono ?_
      rintro r wq ⟨v2, k2, rfl, hok, hbq⟩
      have HWq := Lib.hid (below_chain HWr.out hbq)
      have HCq : Hid (∀ j, j < 9 → wq.cell? ⟨g, j, none⟩ = some (.string (Ts j))) := Lib.hid fun j hj => cell_kept hbq (HCr.out j hj)
      obtain ⟨rfl, p2, hq1, hq2, rfl⟩ := (HTs.out i HLt.out).2 v2 k2 hok
      have hpe := HPt.out.1.unique hq1
      subst hpe
      clear hok hbq hq1 hq2 hck
      go_wp2_with fail
      go_roundw
      case rel => exact ⟨i + 1, by simp, HLt.out, HWq, HCq⟩
      case measure => have := HLt.out; simp [intOf]; omega
    · have hli : ¬ (i : Int) < 9 := by omega
      have k1 : (⟨#[45]⟩ : ByteArray).size = 1 := rfl
      have z0 := HZz.out.1
      have z1 := HZz.out.2.1
      have z9 : ((⟨#[45]⟩ : ByteArray) ++ DB).size ≤ 21 := by rw [ByteArray.size_append, k1]; omega
      clear hlt hi HTs HTv
      go_wp2_with fail
      refine (HEe.out _).mono ?_
      rintro r w20 ⟨rfl, hb20⟩
      have HW20 := Lib.hid (below_chain HWr.out hb20)
      clear hb20
      go_wp2_with fail
      rw [HRM.out]
      refine (HP.out TM HTM.out _ HW20.out).mono ?_
      rintro r w21 ⟨v2, k2, rfl, hok, hb21⟩
      have HW21 := Lib.hid (below_chain HW20.out hb21)
      obtain ⟨rfl, p2, hq1, hq2, rfl⟩ := HNM.out v2 k2 hok
      have hpe := HPt.out.1.unique hq1
      subst hpe
      have hwr : IntKind.u64.wrap ((v : Int) + (SG : Int)) = ((SG + v : Nat) : Int) := by have := HG2.out; rw [IntKind.wrap_u64]; omega
      clear hok hb21 hq1 hq2 z0 z1 z9 k1
      go_wp2_with fail
      refine (HS.out _).mono ?_
      rintro r w22 ⟨rfl, hw22⟩
      have h := hw22.symm
      subst h
      clear hw22
      go_wp2
      go_ret
      exact ⟨rfl, HW21.out⟩
end Go.Proofs.YtmfjimmodaofdaaGreatDoor
