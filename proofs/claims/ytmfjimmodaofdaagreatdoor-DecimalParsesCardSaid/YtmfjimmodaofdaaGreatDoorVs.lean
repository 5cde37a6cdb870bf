/- Walk of gnomonref11: Read (printed by gen_read8.py). -/
import Derived.Test.YtmfjimmodaofdaaGreatDoorVr
namespace Go.Proofs.YtmfjimmodaofdaaGreatDoor
open Go.RowKit

theorem RdS.inf {w W : World} {ng : Bool} (h : RdS w W ng) :
    (W.setCell ⟨w.heap.size + 1, 1, none⟩ (.bool true)).cell? ⟨w.heap.size + 1, 0, none⟩ = some (.bool ng) ∧ (W.setCell ⟨w.heap.size + 1, 1, none⟩ (.bool true)).cell? ⟨w.heap.size + 1, 1, none⟩ = some (.bool true) ∧ (W.setCell ⟨w.heap.size + 1, 1, none⟩ (.bool true)).cell? ⟨w.heap.size + 1, 2, none⟩ = some (.bool false) ∧ (W.setCell ⟨w.heap.size + 1, 1, none⟩ (.bool true)).cell? ⟨w.heap.size + 1, 3, none⟩ = some (.slice none 0 0) ∧ (W.setCell ⟨w.heap.size + 1, 1, none⟩ (.bool true)).cell? ⟨w.heap.size + 1, 4, none⟩ = some (.int .i64 0) ∧
    (W.setCell ⟨w.heap.size + 1, 1, none⟩ (.bool true)).cell? ⟨w.heap.size, 0, none⟩ = some (.bool false) ∧ (W.setCell ⟨w.heap.size + 1, 1, none⟩ (.bool true)).cell? ⟨w.heap.size, 1, none⟩ = some (.bool false) ∧ (W.setCell ⟨w.heap.size + 1, 1, none⟩ (.bool true)).cell? ⟨w.heap.size, 2, none⟩ = some (.bool false) ∧ (W.setCell ⟨w.heap.size + 1, 1, none⟩ (.bool true)).cell? ⟨w.heap.size, 3, none⟩ = some (.slice none 0 0) ∧ (W.setCell ⟨w.heap.size + 1, 1, none⟩ (.bool true)).cell? ⟨w.heap.size, 4, none⟩ = some (.int .i64 0) := by
  refine ⟨?_, ?_, ?_, ?_, ?_, ?_, ?_, ?_, ?_, ?_⟩
  · rw [cell_other (by simp)]; exact h.t0
  · exact World.cell?_setCell_same' _ _ _ (by rw [h.t1]; rfl)
  · rw [cell_other (by simp)]; exact h.t2
  · rw [cell_other (by simp)]; exact h.t3
  · rw [cell_other (by simp)]; exact h.t4
  · rw [cell_other (by simp)]; exact h.r0
  · rw [cell_other (by simp)]; exact h.r1
  · rw [cell_other (by simp)]; exact h.r2
  · rw [cell_other (by simp)]; exact h.r3
  · rw [cell_other (by simp)]; exact h.r4
theorem RdS.new (w : World) (ng : Bool) : RdS w ((w.alloc (.cells #[.bool false, .bool false, .bool false, .slice none 0 0, .int .i64 0] 186)).alloc (.cells #[.bool ng, .bool false, .bool false, .slice none 0 0, .int .i64 0] 186)) ng :=
  ⟨by simp [go_sem], by simp [go_sem], by simp [go_sem], by simp [go_sem], by simp [go_sem], by simp [go_sem], by simp [go_sem], by simp [go_sem], by simp [go_sem], by simp [go_sem], fun j => by simp [go_sem], fun j => by simp [go_sem], by simp, below_chain (below_alloc' w _) (below_alloc' _ _)⟩
theorem ext_self8 (s : ByteArray) : s.extract 0 s.size = s := ByteArray.extract_zero_size
theorem exR_bound (s : ByteArray) (i : Nat) : -1073741824 ≤ exR s i ∧ exR s i ≤ 1073741824 := by
  have h := evR_le s (sgI s i) (dcE s (sgI s i) - sgI s i)
  unfold far8 at h
  unfold exR
  split <;> omega
theorem isE_no {s : ByteArray} {j : Nat} (h1 : (by8 s j).toNat ≠ 101) (h2 : (by8 s j).toNat ≠ 69) : isE s j = false := by
  cases e : isE s j
  · rfl
  · rcases ((isE_iff s j).1 e).2 with h | h
    · exact absurd (congrArg UInt8.toNat h) h1
    · exact absurd (congrArg UInt8.toNat h) h2
theorem isE_yes {s : ByteArray} {j : Nat} (h : j < s.size) (h1 : (by8 s j).toNat = 101 ∨ (by8 s j).toNat = 69) : isE s j = true :=
  (isE_iff s j).2 ⟨h, h1.elim (fun e => .inl (UInt8.toNat_inj.1 e)) (fun e => .inr (UInt8.toNat_inj.1 e))⟩

set_option maxRecDepth 100000 in
set_option maxHeartbeats 1000000 in
theorem read_nan (w : World) :
    Calls Tryz.prog 147 #[.string nanS] w fun e w' => RdOk nanS e w' ∧ Below w.heap.size w w' := by
  have hnb : (nanS.toList == [110, 97, 110]) = true := (str_eq nanS nanS).trans (decide_eq_true rfl)
  have HO := Lib.hid (fun W => show RdOk nanS (.returned (.tuple #[.agg #[.bool false, .bool false, .bool true, .slice none 0 0, .int .i64 0], .bool true])) W from by
    unfold RdOk
    rw [show rdAt nanS = some (0, false, 0, 0) by unfold rdAt; rw [if_pos rfl]]
    exact ⟨_, rfl, DgAt.nil W⟩)
  have hw := below_alloc' w (.cells #[.bool false, .bool false, .bool false, .slice none 0 0, .int .i64 0] 186)
  have hw2 := below_alloc' w (.cells #[.bool false, .bool false, .bool true, .slice none 0 0, .int .i64 0] 186)
  have HW := Lib.hid (And.intro hw hw2)
  obtain ⟨S, hS⟩ : ∃ S, nanS = S := ⟨_, rfl⟩
  rw [hS] at hnb HO ⊢
  clear hS hw hw2
  go_enter Tryz.func147, Tryz.ntmps147
  go_wp2
  refine bodyPost_ret (v := .tuple #[.agg #[.bool false, .bool false, .bool true, .slice none 0 0, .int .i64 0], .bool true]) (by simp [results, Tryz.results147, go_sem]) rfl ?_
  first | exact ⟨HO.out _, HW.out.2⟩ | exact ⟨HO.out _, ((((HW.out.1.setCell (by simp) _).setCell (by simp) _).setCell (by simp) _).setCell (by simp) _).setCell (by simp) _⟩

set_option maxRecDepth 100000 in
set_option maxHeartbeats 8000000 in
theorem read_plus (s : ByteArray) (hs : s.size ≤ 4000) (hn : s ≠ nanS) (h : 0 < s.size) (e1 : (by8 s 0).toNat = 43) (e2 : sgI s 0 = 1) (e3 : sgB s 0 = false) (w : World) :
    Calls Tryz.prog 147 #[.string s] w fun e w' => RdOk s e w' ∧ Below w.heap.size w w' := by
  have hnb : (s.toList == [110, 97, 110]) = false := (str_eq s nanS).trans (decide_eq_false hn)
  have hi0 : sgI s 0 ≤ s.size := sgI_le s 0 (Nat.zero_le _)
  have hix : 0 < s.size → ∀ w1, (Instr.index 9 (.string s) (.int .i64 0)).run Tryz.prog w1 = .ok (.int .u8 ((by8 s 0).toNat : Int)) w1 := fun h w1 => run_byte s 0 h (by omega) w1
  have hib : ((s.extract (sgI s 0) s.size).toList == [105, 110, 102]) = decide (s.extract (sgI s 0) s.size = infS) := str_eq _ infS
  have hRd : rdAt s = if s.extract (sgI s 0) s.size = infS then some (1, sgB s 0, 0, 0) else
      if mS s (sgI s 0) = false then none else
      if dK s (sgI s 0) < s.size then
        if isE s (dK s (sgI s 0)) = true then
          if exO s (dK s (sgI s 0) + 1) = true then some (2, sgB s 0, dcV ((dW s (sgI s 0)).data.toList ++ (dP s (sgI s 0)).data.toList), exR s (dK s (sgI s 0) + 1) - ((dP s (sgI s 0)).size : Int)) else none
        else none
      else some (2, sgB s 0, dcV ((dW s (sgI s 0)).data.toList ++ (dP s (sgI s 0)).data.toList), 0 - ((dP s (sgI s 0)).size : Int)) := by
    conv => lhs; unfold rdAt
    rw [if_neg hn]
  have hMt := fun W => mantissa_walk s (sgI s 0) hi0 hs W
  have hle := dP_le s (sgI s 0) hi0
  obtain ⟨k, hk⟩ : ∃ k, sgI s 0 = k := ⟨_, rfl⟩
  obtain ⟨ng, hng⟩ : ∃ ng, sgB s 0 = ng := ⟨_, rfl⟩
  obtain ⟨n, hn2⟩ : ∃ n, (by8 s 0).toNat = n := ⟨_, rfl⟩
  obtain ⟨fi, hfi⟩ : ∃ b, decide (s.extract k s.size = infS) = b := ⟨_, rfl⟩
  simp only [hk, hng, hn2] at e1 e2 e3 hix hib hRd hMt hi0 hle
  rw [hfi] at hib
  obtain ⟨dv, hdv⟩ : ∃ d, dcV ((dW s k).data.toList ++ (dP s k).data.toList) = d := ⟨_, rfl⟩
  obtain ⟨pl, hpl⟩ : ∃ p, (dP s k).size = p := ⟨_, rfl⟩
  obtain ⟨j, hj⟩ : ∃ j, dK s k = j := ⟨_, rfl⟩
  obtain ⟨sm, hsm⟩ : ∃ b, mS s k = b := ⟨_, rfl⟩
  simp only [hdv, hpl, hj, hsm] at hRd hMt hle
  have HS := Lib.hid (show s.size ≤ 4000 ∧ j ≤ s.size ∧ pl ≤ s.size from ⟨hs, hle.2.1, hle.2.2.2⟩)
  have HFi := Lib.hid hfi
  have HRd := Lib.hid hRd
  have HMt := Lib.hid hMt
  have hii : (k : Int) ≤ (s.size : Int) := by omega
  clear hRd hMt hle hk hng hn2 hfi hdv hpl hj hsm hi0 hn
  subst e3
  have hix := hix h
  have g0 : (0 : Int) < (s.size : Int) := by omega
  have g1 : ((n : Int) == 43) = true := by rw [beq_iff_eq]; omega
  have g2 : ((n : Int) == 45) = false := by rw [beq_eq_false_iff_ne]; omega
  subst e2
  clear h e1 hs
  go_enter Tryz.func147, Tryz.ntmps147
  go_upto_region 7 with fail
  go_cut [5, 42] (fun a b wx => a = .int .i64 1 ∧ b = .bool fi ∧ Hid (RdS w wx false))
  case first =>
    go_wp2_with fail
    go_meet
    exact ⟨rfl, by first | rfl | exact congrArg Value.bool hib, Lib.hid (RdS.new w false)⟩
  case rest =>
    obtain ⟨rfl, rfl, HR⟩ := hcut
    clear hnb g0 hix g1 g2
    cases fi
    · have HRd2 := Lib.hid (show rdAt s = _ from by rw [HRd.out, if_neg (of_decide_eq_false HFi.out)])
      clear HRd HFi hii hib
      go_wp2_with fail
      refine (HMt.out _).mono ?_
      rintro r w2 ⟨v2, rfl, hd2, hb2⟩
      obtain ⟨A, c, rfl, _, _, _⟩ := id hd2
      obtain ⟨nl, hnl⟩ : ∃ nl, (toD dv).length = nl := ⟨_, rfl⟩
      rw [hnl] at hd2 ⊢
      have HR2 := Lib.hid (HR.out.below hb2)
      have HD2 := Lib.hid hd2
      clear hb2 hd2 hnl HMt HR
      cases sm
      · have HRe := Lib.hid (show rdAt s = none by rw [HRd2.out, if_pos rfl])
        have HO := Lib.hid (fun W => show RdOk s (.returned (.tuple #[.agg #[.bool false, .bool false, .bool false, .slice none 0 0, .int .i64 0], .bool false])) W from by unfold RdOk; rw [HRe.out])
        clear HRd2
        have r0 := HR2.out.r0
        have r1 := HR2.out.r1
        have r2 := HR2.out.r2
        have r3 := HR2.out.r3
        have r4 := HR2.out.r4
        have f0 := HR2.out.fr 0
        have f1 := HR2.out.fr 1
        have f2 := HR2.out.fr 2
        have f3 := HR2.out.fr 3
        have f4 := HR2.out.fr 4
        have hq := set5_cells r0 r1 r2 r3 r4 (.bool false) (.bool false) (.bool false) (.slice none 0 0) (.int .i64 0)
        have hbl := set5_below HR2.out.bl (Nat.le_refl _) (.bool false) (.bool false) (.bool false) (.slice none 0 0) (.int .i64 0)
        unfold set5 at hq hbl
        have HBq := Lib.hid hbl
        have HQ5 := Lib.hid hq
        clear hbl hq
        go_wp2
        obtain ⟨q0, q1, q2, q3, q4⟩ := HQ5.out
        refine bodyPost_ret (v := .tuple #[.agg #[.bool false, .bool false, .bool false, .slice none 0 0, .int .i64 0], .bool false]) (by simp [results, Tryz.results147, go_sem, q0, q1, q2, q3, q4]) rfl ?_
        exact ⟨HO.out _, HBq.out⟩

      · have HRd2 := Lib.hid (show rdAt s = _ from by rw [HRd2.out, if_neg (by decide)])
        by_cases hjs : j < s.size
        · have hix := fun w1 => run_byte s j hjs (by have := HS.out.1; omega) w1
          have HJ := Lib.hid hjs
          have HEx := Lib.hid (fun W => exponent_walk8 s (j + 1) (by omega) HS.out.1 W)
          have g3 : (j : Int) < (s.size : Int) := by omega
          have p3 : IntKind.i64.wrap ((j : Int) + 1) = ((j + 1 : Nat) : Int) := by have := HS.out.1; rw [IntKind.wrap_i64]; omega
          obtain ⟨xr, hxr⟩ : ∃ x, exR s (j + 1) = x := ⟨_, rfl⟩
          obtain ⟨xo, hxo⟩ : ∃ x, exO s (j + 1) = x := ⟨_, rfl⟩
          obtain ⟨xn, hxn⟩ : ∃ x : Int, xr - (pl : Int) = x := ⟨_, rfl⟩
          have hxb := exR_bound s (j + 1)
          rw [hxr] at hxb
          have p4 : IntKind.i64.wrap (xr - (pl : Int)) = xn := by have := HS.out; rw [IntKind.wrap_i64]; omega
          rw [hxr, hxo] at HEx
          have HXo := Lib.hid hxo
          have HXn := Lib.hid (show exR s (j + 1) - (pl : Int) = xn by rw [hxr]; exact hxn)
          have hE1 := @isE_yes s j hjs
          have hE0 := @isE_no s j
          obtain ⟨n3, hn3⟩ : ∃ n, (by8 s j).toNat = n := ⟨_, rfl⟩
          simp only [hn3] at hix hE1 hE0
          clear hjs hxr hxo hxn hxb hn3
          by_cases c1 : n3 = 101
          · have hE := Lib.hid (hE1 (.inl c1))
            clear hE1 hE0
            have g4 : ((n3 : Int) != 101) = false := by rw [bne_eq_false_iff_eq]; omega
            clear c1
            go_wp2_with fail
            refine (HEx.out _).mono ?_
            rintro r w3 ⟨rfl, hb3⟩
            have HR3 := Lib.hid (HR2.out.below hb3)
            have HD3 := Lib.hid (HD2.out.below hb3)
            clear hb3 HR2 HD2
            cases xo
            · have HRe := Lib.hid (show rdAt s = none by rw [HRd2.out, if_pos HJ.out, if_pos hE.out, if_neg (by rw [HXo.out]; decide)])
              have HO := Lib.hid (fun W => show RdOk s (.returned (.tuple #[.agg #[.bool false, .bool false, .bool false, .slice none 0 0, .int .i64 0], .bool false])) W from by unfold RdOk; rw [HRe.out])
              have r0 := HR3.out.r0
              have r1 := HR3.out.r1
              have r2 := HR3.out.r2
              have r3 := HR3.out.r3
              have r4 := HR3.out.r4
              have f0 := HR3.out.fr 0
              have f1 := HR3.out.fr 1
              have f2 := HR3.out.fr 2
              have f3 := HR3.out.fr 3
              have f4 := HR3.out.fr 4
              have hq := set5_cells r0 r1 r2 r3 r4 (.bool false) (.bool false) (.bool false) (.slice none 0 0) (.int .i64 0)
              have hbl := set5_below HR3.out.bl (Nat.le_refl _) (.bool false) (.bool false) (.bool false) (.slice none 0 0) (.int .i64 0)
              unfold set5 at hq hbl
              have HBq := Lib.hid hbl
              have HQ5 := Lib.hid hq
              clear hbl hq
              go_wp2
              obtain ⟨q0, q1, q2, q3, q4⟩ := HQ5.out
              refine bodyPost_ret (v := .tuple #[.agg #[.bool false, .bool false, .bool false, .slice none 0 0, .int .i64 0], .bool false]) (by simp [results, Tryz.results147, go_sem, q0, q1, q2, q3, q4]) rfl ?_
              exact ⟨HO.out _, HBq.out⟩

            · have HRe := Lib.hid (show rdAt s = some (2, false, dv, xn) by rw [HRd2.out, if_pos HJ.out, if_pos hE.out, if_pos HXo.out, HXn.out])
              have HO := Lib.hid (fun W v (h : DgAt W v dv) => show RdOk s (.returned (.tuple #[.agg #[.bool false, .bool false, .bool false, v, .int .i64 xn], .bool true])) W from by unfold RdOk; rw [HRe.out]; exact ⟨v, rfl, h⟩)
              have r0 := HR3.out.r0
              have r1 := HR3.out.r1
              have r2 := HR3.out.r2
              have r3 := HR3.out.r3
              have r4 := HR3.out.r4
              have f0 := HR3.out.fr 0
              have f1 := HR3.out.fr 1
              have f2 := HR3.out.fr 2
              have f3 := HR3.out.fr 3
              have f4 := HR3.out.fr 4
              have t0 := HR3.out.t0
              have t1 := HR3.out.t1
              have t2 := HR3.out.t2
              have t3 := HR3.out.t3
              have t4 := HR3.out.t4
              have u0 := HR3.out.ft 0
              have u1 := HR3.out.ft 1
              have u2 := HR3.out.ft 2
              have u3 := HR3.out.ft 3
              have u4 := HR3.out.ft 4
              have hnum := HR3.out.num (.slice A nl c) (.int .i64 xn)
              obtain ⟨y0, y1, y2, y3, y4, z0, z1, z2, z3, z4⟩ := hnum
              have hq := set5_cells z0 z1 z2 z3 z4 (.bool false) (.bool false) (.bool false) (.slice A nl c) (.int .i64 xn)
              have hdq := set5_dg (HR3.out.numDg HD3.out (.int .i64 xn)) z0 z1 z2 z3 z4 (.bool false) (.bool false) (.bool false) (.slice A nl c) (.int .i64 xn)
              have hbl := set5_below (HR3.out.numBl (.slice A nl c) (.int .i64 xn)) (Nat.le_refl _) (.bool false) (.bool false) (.bool false) (.slice A nl c) (.int .i64 xn)
              unfold set5 setT at hq hdq hbl
              unfold setT at y0 y1 y2 y3 y4
              have HBq := Lib.hid hbl
              have HDq := Lib.hid hdq
              have HQ5 := Lib.hid hq
              clear hbl hdq hq z0 z1 z2 z3 z4
              go_wp2
              obtain ⟨q0, q1, q2, q3, q4⟩ := HQ5.out
              refine bodyPost_ret (v := .tuple #[.agg #[.bool false, .bool false, .bool false, (.slice A nl c), .int .i64 xn], .bool true]) (by simp [results, Tryz.results147, go_sem, q0, q1, q2, q3, q4]) rfl ?_
              exact ⟨HO.out _ _ HDq.out, HBq.out⟩

          · by_cases c2 : n3 = 69
            · have hE := Lib.hid (hE1 (.inr c2))
              clear hE1 hE0
              have g4 : ((n3 : Int) != 101) = true := by rw [bne_iff_ne]; omega
              have g5 : ((n3 : Int) != 69) = false := by rw [bne_eq_false_iff_eq]; omega
              clear c1 c2
              go_wp2_with fail
              refine (HEx.out _).mono ?_
              rintro r w3 ⟨rfl, hb3⟩
              have HR3 := Lib.hid (HR2.out.below hb3)
              have HD3 := Lib.hid (HD2.out.below hb3)
              clear hb3 HR2 HD2
              cases xo
              · have HRe := Lib.hid (show rdAt s = none by rw [HRd2.out, if_pos HJ.out, if_pos hE.out, if_neg (by rw [HXo.out]; decide)])
                have HO := Lib.hid (fun W => show RdOk s (.returned (.tuple #[.agg #[.bool false, .bool false, .bool false, .slice none 0 0, .int .i64 0], .bool false])) W from by unfold RdOk; rw [HRe.out])
                have r0 := HR3.out.r0
                have r1 := HR3.out.r1
                have r2 := HR3.out.r2
                have r3 := HR3.out.r3
                have r4 := HR3.out.r4
                have f0 := HR3.out.fr 0
                have f1 := HR3.out.fr 1
                have f2 := HR3.out.fr 2
                have f3 := HR3.out.fr 3
                have f4 := HR3.out.fr 4
                have hq := set5_cells r0 r1 r2 r3 r4 (.bool false) (.bool false) (.bool false) (.slice none 0 0) (.int .i64 0)
                have hbl := set5_below HR3.out.bl (Nat.le_refl _) (.bool false) (.bool false) (.bool false) (.slice none 0 0) (.int .i64 0)
                unfold set5 at hq hbl
                have HBq := Lib.hid hbl
                have HQ5 := Lib.hid hq
                clear hbl hq
                go_wp2
                obtain ⟨q0, q1, q2, q3, q4⟩ := HQ5.out
                refine bodyPost_ret (v := .tuple #[.agg #[.bool false, .bool false, .bool false, .slice none 0 0, .int .i64 0], .bool false]) (by simp [results, Tryz.results147, go_sem, q0, q1, q2, q3, q4]) rfl ?_
                exact ⟨HO.out _, HBq.out⟩

              · have HRe := Lib.hid (show rdAt s = some (2, false, dv, xn) by rw [HRd2.out, if_pos HJ.out, if_pos hE.out, if_pos HXo.out, HXn.out])
                have HO := Lib.hid (fun W v (h : DgAt W v dv) => show RdOk s (.returned (.tuple #[.agg #[.bool false, .bool false, .bool false, v, .int .i64 xn], .bool true])) W from by unfold RdOk; rw [HRe.out]; exact ⟨v, rfl, h⟩)
                have r0 := HR3.out.r0
                have r1 := HR3.out.r1
                have r2 := HR3.out.r2
                have r3 := HR3.out.r3
                have r4 := HR3.out.r4
                have f0 := HR3.out.fr 0
                have f1 := HR3.out.fr 1
                have f2 := HR3.out.fr 2
                have f3 := HR3.out.fr 3
                have f4 := HR3.out.fr 4
                have t0 := HR3.out.t0
                have t1 := HR3.out.t1
                have t2 := HR3.out.t2
                have t3 := HR3.out.t3
                have t4 := HR3.out.t4
                have u0 := HR3.out.ft 0
                have u1 := HR3.out.ft 1
                have u2 := HR3.out.ft 2
                have u3 := HR3.out.ft 3
                have u4 := HR3.out.ft 4
                have hnum := HR3.out.num (.slice A nl c) (.int .i64 xn)
                obtain ⟨y0, y1, y2, y3, y4, z0, z1, z2, z3, z4⟩ := hnum
                have hq := set5_cells z0 z1 z2 z3 z4 (.bool false) (.bool false) (.bool false) (.slice A nl c) (.int .i64 xn)
                have hdq := set5_dg (HR3.out.numDg HD3.out (.int .i64 xn)) z0 z1 z2 z3 z4 (.bool false) (.bool false) (.bool false) (.slice A nl c) (.int .i64 xn)
                have hbl := set5_below (HR3.out.numBl (.slice A nl c) (.int .i64 xn)) (Nat.le_refl _) (.bool false) (.bool false) (.bool false) (.slice A nl c) (.int .i64 xn)
                unfold set5 setT at hq hdq hbl
                unfold setT at y0 y1 y2 y3 y4
                have HBq := Lib.hid hbl
                have HDq := Lib.hid hdq
                have HQ5 := Lib.hid hq
                clear hbl hdq hq z0 z1 z2 z3 z4
                go_wp2
                obtain ⟨q0, q1, q2, q3, q4⟩ := HQ5.out
                refine bodyPost_ret (v := .tuple #[.agg #[.bool false, .bool false, .bool false, (.slice A nl c), .int .i64 xn], .bool true]) (by simp [results, Tryz.results147, go_sem, q0, q1, q2, q3, q4]) rfl ?_
                exact ⟨HO.out _ _ HDq.out, HBq.out⟩

            · have HRe := Lib.hid (show rdAt s = none by rw [HRd2.out, if_pos HJ.out, if_neg (by rw [hE0 c1 c2]; decide)])
              have HO := Lib.hid (fun W => show RdOk s (.returned (.tuple #[.agg #[.bool false, .bool false, .bool false, .slice none 0 0, .int .i64 0], .bool false])) W from by unfold RdOk; rw [HRe.out])
              have g4 : ((n3 : Int) != 101) = true := by rw [bne_iff_ne]; omega
              have g5 : ((n3 : Int) != 69) = true := by rw [bne_iff_ne]; omega
              clear hE1 hE0 c1 c2 HRd2
              have r0 := HR2.out.r0
              have r1 := HR2.out.r1
              have r2 := HR2.out.r2
              have r3 := HR2.out.r3
              have r4 := HR2.out.r4
              have f0 := HR2.out.fr 0
              have f1 := HR2.out.fr 1
              have f2 := HR2.out.fr 2
              have f3 := HR2.out.fr 3
              have f4 := HR2.out.fr 4
              have hq := set5_cells r0 r1 r2 r3 r4 (.bool false) (.bool false) (.bool false) (.slice none 0 0) (.int .i64 0)
              have hbl := set5_below HR2.out.bl (Nat.le_refl _) (.bool false) (.bool false) (.bool false) (.slice none 0 0) (.int .i64 0)
              unfold set5 at hq hbl
              have HBq := Lib.hid hbl
              have HQ5 := Lib.hid hq
              clear hbl hq
              go_wp2
              obtain ⟨q0, q1, q2, q3, q4⟩ := HQ5.out
              refine bodyPost_ret (v := .tuple #[.agg #[.bool false, .bool false, .bool false, .slice none 0 0, .int .i64 0], .bool false]) (by simp [results, Tryz.results147, go_sem, q0, q1, q2, q3, q4]) rfl ?_
              exact ⟨HO.out _, HBq.out⟩

        · have HRe := Lib.hid (show rdAt s = some (2, false, dv, 0 - (pl : Int)) by rw [HRd2.out, if_neg hjs])
          have g3 : ¬ (j : Int) < (s.size : Int) := by omega
          obtain ⟨xn, hxn⟩ : ∃ x : Int, -(pl : Int) = x := ⟨_, rfl⟩
          have p4 : IntKind.i64.wrap (-(pl : Int)) = xn := by have := HS.out; rw [IntKind.wrap_i64]; omega
          have p5 : IntKind.i64.wrap (0 - (pl : Int)) = xn := by have := HS.out; rw [IntKind.wrap_i64]; omega
          rw [show (0 : Int) - (pl : Int) = xn by omega] at HRe
          have HO := Lib.hid (fun W v (h : DgAt W v dv) => show RdOk s (.returned (.tuple #[.agg #[.bool false, .bool false, .bool false, v, .int .i64 xn], .bool true])) W from by unfold RdOk; rw [HRe.out]; exact ⟨v, rfl, h⟩)
          clear HRd2 hjs hxn
          have r0 := HR2.out.r0
          have r1 := HR2.out.r1
          have r2 := HR2.out.r2
          have r3 := HR2.out.r3
          have r4 := HR2.out.r4
          have f0 := HR2.out.fr 0
          have f1 := HR2.out.fr 1
          have f2 := HR2.out.fr 2
          have f3 := HR2.out.fr 3
          have f4 := HR2.out.fr 4
          have t0 := HR2.out.t0
          have t1 := HR2.out.t1
          have t2 := HR2.out.t2
          have t3 := HR2.out.t3
          have t4 := HR2.out.t4
          have u0 := HR2.out.ft 0
          have u1 := HR2.out.ft 1
          have u2 := HR2.out.ft 2
          have u3 := HR2.out.ft 3
          have u4 := HR2.out.ft 4
          have hnum := HR2.out.num (.slice A nl c) (.int .i64 xn)
          obtain ⟨y0, y1, y2, y3, y4, z0, z1, z2, z3, z4⟩ := hnum
          have hq := set5_cells z0 z1 z2 z3 z4 (.bool false) (.bool false) (.bool false) (.slice A nl c) (.int .i64 xn)
          have hdq := set5_dg (HR2.out.numDg HD2.out (.int .i64 xn)) z0 z1 z2 z3 z4 (.bool false) (.bool false) (.bool false) (.slice A nl c) (.int .i64 xn)
          have hbl := set5_below (HR2.out.numBl (.slice A nl c) (.int .i64 xn)) (Nat.le_refl _) (.bool false) (.bool false) (.bool false) (.slice A nl c) (.int .i64 xn)
          unfold set5 setT at hq hdq hbl
          unfold setT at y0 y1 y2 y3 y4
          have HBq := Lib.hid hbl
          have HDq := Lib.hid hdq
          have HQ5 := Lib.hid hq
          clear hbl hdq hq z0 z1 z2 z3 z4
          go_wp2
          obtain ⟨q0, q1, q2, q3, q4⟩ := HQ5.out
          refine bodyPost_ret (v := .tuple #[.agg #[.bool false, .bool false, .bool false, (.slice A nl c), .int .i64 xn], .bool true]) (by simp [results, Tryz.results147, go_sem, q0, q1, q2, q3, q4]) rfl ?_
          exact ⟨HO.out _ _ HDq.out, HBq.out⟩

    · have HRe := Lib.hid (show rdAt s = some (1, false, 0, 0) by rw [HRd.out, if_pos (of_decide_eq_true HFi.out)])
      have HO := Lib.hid (fun W => show RdOk s (.returned (.tuple #[.agg #[.bool false, .bool true, .bool false, .slice none 0 0, .int .i64 0], .bool true])) W from by unfold RdOk; rw [HRe.out]; exact ⟨_, rfl, DgAt.nil W⟩)
      clear HRd HFi hii hib HMt
      have r0 := HR.out.r0
      have r1 := HR.out.r1
      have r2 := HR.out.r2
      have r3 := HR.out.r3
      have r4 := HR.out.r4
      have f0 := HR.out.fr 0
      have f1 := HR.out.fr 1
      have f2 := HR.out.fr 2
      have f3 := HR.out.fr 3
      have f4 := HR.out.fr 4
      have t0 := HR.out.t0
      have t1 := HR.out.t1
      have t2 := HR.out.t2
      have t3 := HR.out.t3
      have t4 := HR.out.t4
      have u0 := HR.out.ft 0
      have u1 := HR.out.ft 1
      have u2 := HR.out.ft 2
      have u3 := HR.out.ft 3
      have u4 := HR.out.ft 4
      obtain ⟨y0, y1, y2, y3, y4, z0, z1, z2, z3, z4⟩ := HR.out.inf
      have hq := set5_cells z0 z1 z2 z3 z4 (.bool false) (.bool true) (.bool false) (.slice none 0 0) (.int .i64 0)
      have hbl := set5_below (HR.out.bl.setCell (p := ⟨w.heap.size + 1, 1, none⟩) (Nat.le_succ _) (.bool true)) (Nat.le_refl _) (.bool false) (.bool true) (.bool false) (.slice none 0 0) (.int .i64 0)
      unfold set5 at hq hbl
      have HBq := Lib.hid hbl
      have HQ5 := Lib.hid hq
      clear hbl hq
      go_wp2
      obtain ⟨q0, q1, q2, q3, q4⟩ := HQ5.out
      refine bodyPost_ret (v := .tuple #[.agg #[.bool false, .bool true, .bool false, .slice none 0 0, .int .i64 0], .bool true]) (by simp [results, Tryz.results147, go_sem, q0, q1, q2, q3, q4]) rfl ?_
      exact ⟨HO.out _, HBq.out⟩

set_option maxRecDepth 100000 in
set_option maxHeartbeats 8000000 in
theorem read_minus (s : ByteArray) (hs : s.size ≤ 4000) (hn : s ≠ nanS) (h : 0 < s.size) (e1 : (by8 s 0).toNat = 45) (e2 : sgI s 0 = 1) (e3 : sgB s 0 = true) (w : World) :
    Calls Tryz.prog 147 #[.string s] w fun e w' => RdOk s e w' ∧ Below w.heap.size w w' := by
  have hnb : (s.toList == [110, 97, 110]) = false := (str_eq s nanS).trans (decide_eq_false hn)
  have hi0 : sgI s 0 ≤ s.size := sgI_le s 0 (Nat.zero_le _)
  have hix : 0 < s.size → ∀ w1, (Instr.index 9 (.string s) (.int .i64 0)).run Tryz.prog w1 = .ok (.int .u8 ((by8 s 0).toNat : Int)) w1 := fun h w1 => run_byte s 0 h (by omega) w1
  have hib : ((s.extract (sgI s 0) s.size).toList == [105, 110, 102]) = decide (s.extract (sgI s 0) s.size = infS) := str_eq _ infS
  have hRd : rdAt s = if s.extract (sgI s 0) s.size = infS then some (1, sgB s 0, 0, 0) else
      if mS s (sgI s 0) = false then none else
      if dK s (sgI s 0) < s.size then
        if isE s (dK s (sgI s 0)) = true then
          if exO s (dK s (sgI s 0) + 1) = true then some (2, sgB s 0, dcV ((dW s (sgI s 0)).data.toList ++ (dP s (sgI s 0)).data.toList), exR s (dK s (sgI s 0) + 1) - ((dP s (sgI s 0)).size : Int)) else none
        else none
      else some (2, sgB s 0, dcV ((dW s (sgI s 0)).data.toList ++ (dP s (sgI s 0)).data.toList), 0 - ((dP s (sgI s 0)).size : Int)) := by
    conv => lhs; unfold rdAt
    rw [if_neg hn]
  have hMt := fun W => mantissa_walk s (sgI s 0) hi0 hs W
  have hle := dP_le s (sgI s 0) hi0
  obtain ⟨k, hk⟩ : ∃ k, sgI s 0 = k := ⟨_, rfl⟩
  obtain ⟨ng, hng⟩ : ∃ ng, sgB s 0 = ng := ⟨_, rfl⟩
  obtain ⟨n, hn2⟩ : ∃ n, (by8 s 0).toNat = n := ⟨_, rfl⟩
  obtain ⟨fi, hfi⟩ : ∃ b, decide (s.extract k s.size = infS) = b := ⟨_, rfl⟩
  simp only [hk, hng, hn2] at e1 e2 e3 hix hib hRd hMt hi0 hle
  rw [hfi] at hib
  obtain ⟨dv, hdv⟩ : ∃ d, dcV ((dW s k).data.toList ++ (dP s k).data.toList) = d := ⟨_, rfl⟩
  obtain ⟨pl, hpl⟩ : ∃ p, (dP s k).size = p := ⟨_, rfl⟩
  obtain ⟨j, hj⟩ : ∃ j, dK s k = j := ⟨_, rfl⟩
  obtain ⟨sm, hsm⟩ : ∃ b, mS s k = b := ⟨_, rfl⟩
  simp only [hdv, hpl, hj, hsm] at hRd hMt hle
  have HS := Lib.hid (show s.size ≤ 4000 ∧ j ≤ s.size ∧ pl ≤ s.size from ⟨hs, hle.2.1, hle.2.2.2⟩)
  have HFi := Lib.hid hfi
  have HRd := Lib.hid hRd
  have HMt := Lib.hid hMt
  have hii : (k : Int) ≤ (s.size : Int) := by omega
  clear hRd hMt hle hk hng hn2 hfi hdv hpl hj hsm hi0 hn
  subst e3
  have hix := hix h
  have g0 : (0 : Int) < (s.size : Int) := by omega
  have g1 : ((n : Int) == 43) = false := by rw [beq_eq_false_iff_ne]; omega
  have g2 : ((n : Int) == 45) = true := by rw [beq_iff_eq]; omega
  subst e2
  clear h e1 hs
  go_enter Tryz.func147, Tryz.ntmps147
  go_upto_region 7 with fail
  go_cut [5, 42] (fun a b wx => a = .int .i64 1 ∧ b = .bool fi ∧ Hid (RdS w wx true))
  case first =>
    go_wp2_with fail
    go_meet
    exact ⟨rfl, by first | rfl | exact congrArg Value.bool hib, Lib.hid (RdS.new w true)⟩
  case rest =>
    obtain ⟨rfl, rfl, HR⟩ := hcut
    clear hnb g0 hix g1 g2
    cases fi
    · have HRd2 := Lib.hid (show rdAt s = _ from by rw [HRd.out, if_neg (of_decide_eq_false HFi.out)])
      clear HRd HFi hii hib
      go_wp2_with fail
      refine (HMt.out _).mono ?_
      rintro r w2 ⟨v2, rfl, hd2, hb2⟩
      obtain ⟨A, c, rfl, _, _, _⟩ := id hd2
      obtain ⟨nl, hnl⟩ : ∃ nl, (toD dv).length = nl := ⟨_, rfl⟩
      rw [hnl] at hd2 ⊢
      have HR2 := Lib.hid (HR.out.below hb2)
      have HD2 := Lib.hid hd2
      clear hb2 hd2 hnl HMt HR
      cases sm
      · have HRe := Lib.hid (show rdAt s = none by rw [HRd2.out, if_pos rfl])
        have HO := Lib.hid (fun W => show RdOk s (.returned (.tuple #[.agg #[.bool false, .bool false, .bool false, .slice none 0 0, .int .i64 0], .bool false])) W from by unfold RdOk; rw [HRe.out])
        clear HRd2
        have r0 := HR2.out.r0
        have r1 := HR2.out.r1
        have r2 := HR2.out.r2
        have r3 := HR2.out.r3
        have r4 := HR2.out.r4
        have f0 := HR2.out.fr 0
        have f1 := HR2.out.fr 1
        have f2 := HR2.out.fr 2
        have f3 := HR2.out.fr 3
        have f4 := HR2.out.fr 4
        have hq := set5_cells r0 r1 r2 r3 r4 (.bool false) (.bool false) (.bool false) (.slice none 0 0) (.int .i64 0)
        have hbl := set5_below HR2.out.bl (Nat.le_refl _) (.bool false) (.bool false) (.bool false) (.slice none 0 0) (.int .i64 0)
        unfold set5 at hq hbl
        have HBq := Lib.hid hbl
        have HQ5 := Lib.hid hq
        clear hbl hq
        go_wp2
        obtain ⟨q0, q1, q2, q3, q4⟩ := HQ5.out
        refine bodyPost_ret (v := .tuple #[.agg #[.bool false, .bool false, .bool false, .slice none 0 0, .int .i64 0], .bool false]) (by simp [results, Tryz.results147, go_sem, q0, q1, q2, q3, q4]) rfl ?_
        exact ⟨HO.out _, HBq.out⟩

      · have HRd2 := Lib.hid (show rdAt s = _ from by rw [HRd2.out, if_neg (by decide)])
        by_cases hjs : j < s.size
        · have hix := fun w1 => run_byte s j hjs (by have := HS.out.1; omega) w1
          have HJ := Lib.hid hjs
          have HEx := Lib.hid (fun W => exponent_walk8 s (j + 1) (by omega) HS.out.1 W)
          have g3 : (j : Int) < (s.size : Int) := by omega
          have p3 : IntKind.i64.wrap ((j : Int) + 1) = ((j + 1 : Nat) : Int) := by have := HS.out.1; rw [IntKind.wrap_i64]; omega
          obtain ⟨xr, hxr⟩ : ∃ x, exR s (j + 1) = x := ⟨_, rfl⟩
          obtain ⟨xo, hxo⟩ : ∃ x, exO s (j + 1) = x := ⟨_, rfl⟩
          obtain ⟨xn, hxn⟩ : ∃ x : Int, xr - (pl : Int) = x := ⟨_, rfl⟩
          have hxb := exR_bound s (j + 1)
          rw [hxr] at hxb
          have p4 : IntKind.i64.wrap (xr - (pl : Int)) = xn := by have := HS.out; rw [IntKind.wrap_i64]; omega
          rw [hxr, hxo] at HEx
          have HXo := Lib.hid hxo
          have HXn := Lib.hid (show exR s (j + 1) - (pl : Int) = xn by rw [hxr]; exact hxn)
          have hE1 := @isE_yes s j hjs
          have hE0 := @isE_no s j
          obtain ⟨n3, hn3⟩ : ∃ n, (by8 s j).toNat = n := ⟨_, rfl⟩
          simp only [hn3] at hix hE1 hE0
          clear hjs hxr hxo hxn hxb hn3
          by_cases c1 : n3 = 101
          · have hE := Lib.hid (hE1 (.inl c1))
            clear hE1 hE0
            have g4 : ((n3 : Int) != 101) = false := by rw [bne_eq_false_iff_eq]; omega
            clear c1
            go_wp2_with fail
            refine (HEx.out _).mono ?_
            rintro r w3 ⟨rfl, hb3⟩
            have HR3 := Lib.hid (HR2.out.below hb3)
            have HD3 := Lib.hid (HD2.out.below hb3)
            clear hb3 HR2 HD2
            cases xo
            · have HRe := Lib.hid (show rdAt s = none by rw [HRd2.out, if_pos HJ.out, if_pos hE.out, if_neg (by rw [HXo.out]; decide)])
              have HO := Lib.hid (fun W => show RdOk s (.returned (.tuple #[.agg #[.bool false, .bool false, .bool false, .slice none 0 0, .int .i64 0], .bool false])) W from by unfold RdOk; rw [HRe.out])
              have r0 := HR3.out.r0
              have r1 := HR3.out.r1
              have r2 := HR3.out.r2
              have r3 := HR3.out.r3
              have r4 := HR3.out.r4
              have f0 := HR3.out.fr 0
              have f1 := HR3.out.fr 1
              have f2 := HR3.out.fr 2
              have f3 := HR3.out.fr 3
              have f4 := HR3.out.fr 4
              have hq := set5_cells r0 r1 r2 r3 r4 (.bool false) (.bool false) (.bool false) (.slice none 0 0) (.int .i64 0)
              have hbl := set5_below HR3.out.bl (Nat.le_refl _) (.bool false) (.bool false) (.bool false) (.slice none 0 0) (.int .i64 0)
              unfold set5 at hq hbl
              have HBq := Lib.hid hbl
              have HQ5 := Lib.hid hq
              clear hbl hq
              go_wp2
              obtain ⟨q0, q1, q2, q3, q4⟩ := HQ5.out
              refine bodyPost_ret (v := .tuple #[.agg #[.bool false, .bool false, .bool false, .slice none 0 0, .int .i64 0], .bool false]) (by simp [results, Tryz.results147, go_sem, q0, q1, q2, q3, q4]) rfl ?_
              exact ⟨HO.out _, HBq.out⟩

            · have HRe := Lib.hid (show rdAt s = some (2, true, dv, xn) by rw [HRd2.out, if_pos HJ.out, if_pos hE.out, if_pos HXo.out, HXn.out])
              have HO := Lib.hid (fun W v (h : DgAt W v dv) => show RdOk s (.returned (.tuple #[.agg #[.bool true, .bool false, .bool false, v, .int .i64 xn], .bool true])) W from by unfold RdOk; rw [HRe.out]; exact ⟨v, rfl, h⟩)
              have r0 := HR3.out.r0
              have r1 := HR3.out.r1
              have r2 := HR3.out.r2
              have r3 := HR3.out.r3
              have r4 := HR3.out.r4
              have f0 := HR3.out.fr 0
              have f1 := HR3.out.fr 1
              have f2 := HR3.out.fr 2
              have f3 := HR3.out.fr 3
              have f4 := HR3.out.fr 4
              have t0 := HR3.out.t0
              have t1 := HR3.out.t1
              have t2 := HR3.out.t2
              have t3 := HR3.out.t3
              have t4 := HR3.out.t4
              have u0 := HR3.out.ft 0
              have u1 := HR3.out.ft 1
              have u2 := HR3.out.ft 2
              have u3 := HR3.out.ft 3
              have u4 := HR3.out.ft 4
              have hnum := HR3.out.num (.slice A nl c) (.int .i64 xn)
              obtain ⟨y0, y1, y2, y3, y4, z0, z1, z2, z3, z4⟩ := hnum
              have hq := set5_cells z0 z1 z2 z3 z4 (.bool true) (.bool false) (.bool false) (.slice A nl c) (.int .i64 xn)
              have hdq := set5_dg (HR3.out.numDg HD3.out (.int .i64 xn)) z0 z1 z2 z3 z4 (.bool true) (.bool false) (.bool false) (.slice A nl c) (.int .i64 xn)
              have hbl := set5_below (HR3.out.numBl (.slice A nl c) (.int .i64 xn)) (Nat.le_refl _) (.bool true) (.bool false) (.bool false) (.slice A nl c) (.int .i64 xn)
              unfold set5 setT at hq hdq hbl
              unfold setT at y0 y1 y2 y3 y4
              have HBq := Lib.hid hbl
              have HDq := Lib.hid hdq
              have HQ5 := Lib.hid hq
              clear hbl hdq hq z0 z1 z2 z3 z4
              go_wp2
              obtain ⟨q0, q1, q2, q3, q4⟩ := HQ5.out
              refine bodyPost_ret (v := .tuple #[.agg #[.bool true, .bool false, .bool false, (.slice A nl c), .int .i64 xn], .bool true]) (by simp [results, Tryz.results147, go_sem, q0, q1, q2, q3, q4]) rfl ?_
              exact ⟨HO.out _ _ HDq.out, HBq.out⟩

          · by_cases c2 : n3 = 69
            · have hE := Lib.hid (hE1 (.inr c2))
              clear hE1 hE0
              have g4 : ((n3 : Int) != 101) = true := by rw [bne_iff_ne]; omega
              have g5 : ((n3 : Int) != 69) = false := by rw [bne_eq_false_iff_eq]; omega
              clear c1 c2
              go_wp2_with fail
              refine (HEx.out _).mono ?_
              rintro r w3 ⟨rfl, hb3⟩
              have HR3 := Lib.hid (HR2.out.below hb3)
              have HD3 := Lib.hid (HD2.out.below hb3)
              clear hb3 HR2 HD2
              cases xo
              · have HRe := Lib.hid (show rdAt s = none by rw [HRd2.out, if_pos HJ.out, if_pos hE.out, if_neg (by rw [HXo.out]; decide)])
                have HO := Lib.hid (fun W => show RdOk s (.returned (.tuple #[.agg #[.bool false, .bool false, .bool false, .slice none 0 0, .int .i64 0], .bool false])) W from by unfold RdOk; rw [HRe.out])
                have r0 := HR3.out.r0
                have r1 := HR3.out.r1
                have r2 := HR3.out.r2
                have r3 := HR3.out.r3
                have r4 := HR3.out.r4
                have f0 := HR3.out.fr 0
                have f1 := HR3.out.fr 1
                have f2 := HR3.out.fr 2
                have f3 := HR3.out.fr 3
                have f4 := HR3.out.fr 4
                have hq := set5_cells r0 r1 r2 r3 r4 (.bool false) (.bool false) (.bool false) (.slice none 0 0) (.int .i64 0)
                have hbl := set5_below HR3.out.bl (Nat.le_refl _) (.bool false) (.bool false) (.bool false) (.slice none 0 0) (.int .i64 0)
                unfold set5 at hq hbl
                have HBq := Lib.hid hbl
                have HQ5 := Lib.hid hq
                clear hbl hq
                go_wp2
                obtain ⟨q0, q1, q2, q3, q4⟩ := HQ5.out
                refine bodyPost_ret (v := .tuple #[.agg #[.bool false, .bool false, .bool false, .slice none 0 0, .int .i64 0], .bool false]) (by simp [results, Tryz.results147, go_sem, q0, q1, q2, q3, q4]) rfl ?_
                exact ⟨HO.out _, HBq.out⟩

              · have HRe := Lib.hid (show rdAt s = some (2, true, dv, xn) by rw [HRd2.out, if_pos HJ.out, if_pos hE.out, if_pos HXo.out, HXn.out])
                have HO := Lib.hid (fun W v (h : DgAt W v dv) => show RdOk s (.returned (.tuple #[.agg #[.bool true, .bool false, .bool false, v, .int .i64 xn], .bool true])) W from by unfold RdOk; rw [HRe.out]; exact ⟨v, rfl, h⟩)
                have r0 := HR3.out.r0
                have r1 := HR3.out.r1
                have r2 := HR3.out.r2
                have r3 := HR3.out.r3
                have r4 := HR3.out.r4
                have f0 := HR3.out.fr 0
                have f1 := HR3.out.fr 1
                have f2 := HR3.out.fr 2
                have f3 := HR3.out.fr 3
                have f4 := HR3.out.fr 4
                have t0 := HR3.out.t0
                have t1 := HR3.out.t1
                have t2 := HR3.out.t2
                have t3 := HR3.out.t3
                have t4 := HR3.out.t4
                have u0 := HR3.out.ft 0
                have u1 := HR3.out.ft 1
                have u2 := HR3.out.ft 2
                have u3 := HR3.out.ft 3
                have u4 := HR3.out.ft 4
                have hnum := HR3.out.num (.slice A nl c) (.int .i64 xn)
                obtain ⟨y0, y1, y2, y3, y4, z0, z1, z2, z3, z4⟩ := hnum
                have hq := set5_cells z0 z1 z2 z3 z4 (.bool true) (.bool false) (.bool false) (.slice A nl c) (.int .i64 xn)
                have hdq := set5_dg (HR3.out.numDg HD3.out (.int .i64 xn)) z0 z1 z2 z3 z4 (.bool true) (.bool false) (.bool false) (.slice A nl c) (.int .i64 xn)
                have hbl := set5_below (HR3.out.numBl (.slice A nl c) (.int .i64 xn)) (Nat.le_refl _) (.bool true) (.bool false) (.bool false) (.slice A nl c) (.int .i64 xn)
                unfold set5 setT at hq hdq hbl
                unfold setT at y0 y1 y2 y3 y4
                have HBq := Lib.hid hbl
                have HDq := Lib.hid hdq
                have HQ5 := Lib.hid hq
                clear hbl hdq hq z0 z1 z2 z3 z4
                go_wp2
                obtain ⟨q0, q1, q2, q3, q4⟩ := HQ5.out
                refine bodyPost_ret (v := .tuple #[.agg #[.bool true, .bool false, .bool false, (.slice A nl c), .int .i64 xn], .bool true]) (by simp [results, Tryz.results147, go_sem, q0, q1, q2, q3, q4]) rfl ?_
                exact ⟨HO.out _ _ HDq.out, HBq.out⟩

            · have HRe := Lib.hid (show rdAt s = none by rw [HRd2.out, if_pos HJ.out, if_neg (by rw [hE0 c1 c2]; decide)])
              have HO := Lib.hid (fun W => show RdOk s (.returned (.tuple #[.agg #[.bool false, .bool false, .bool false, .slice none 0 0, .int .i64 0], .bool false])) W from by unfold RdOk; rw [HRe.out])
              have g4 : ((n3 : Int) != 101) = true := by rw [bne_iff_ne]; omega
              have g5 : ((n3 : Int) != 69) = true := by rw [bne_iff_ne]; omega
              clear hE1 hE0 c1 c2 HRd2
              have r0 := HR2.out.r0
              have r1 := HR2.out.r1
              have r2 := HR2.out.r2
              have r3 := HR2.out.r3
              have r4 := HR2.out.r4
              have f0 := HR2.out.fr 0
              have f1 := HR2.out.fr 1
              have f2 := HR2.out.fr 2
              have f3 := HR2.out.fr 3
              have f4 := HR2.out.fr 4
              have hq := set5_cells r0 r1 r2 r3 r4 (.bool false) (.bool false) (.bool false) (.slice none 0 0) (.int .i64 0)
              have hbl := set5_below HR2.out.bl (Nat.le_refl _) (.bool false) (.bool false) (.bool false) (.slice none 0 0) (.int .i64 0)
              unfold set5 at hq hbl
              have HBq := Lib.hid hbl
              have HQ5 := Lib.hid hq
              clear hbl hq
              go_wp2
              obtain ⟨q0, q1, q2, q3, q4⟩ := HQ5.out
              refine bodyPost_ret (v := .tuple #[.agg #[.bool false, .bool false, .bool false, .slice none 0 0, .int .i64 0], .bool false]) (by simp [results, Tryz.results147, go_sem, q0, q1, q2, q3, q4]) rfl ?_
              exact ⟨HO.out _, HBq.out⟩

        · have HRe := Lib.hid (show rdAt s = some (2, true, dv, 0 - (pl : Int)) by rw [HRd2.out, if_neg hjs])
          have g3 : ¬ (j : Int) < (s.size : Int) := by omega
          obtain ⟨xn, hxn⟩ : ∃ x : Int, -(pl : Int) = x := ⟨_, rfl⟩
          have p4 : IntKind.i64.wrap (-(pl : Int)) = xn := by have := HS.out; rw [IntKind.wrap_i64]; omega
          have p5 : IntKind.i64.wrap (0 - (pl : Int)) = xn := by have := HS.out; rw [IntKind.wrap_i64]; omega
          rw [show (0 : Int) - (pl : Int) = xn by omega] at HRe
          have HO := Lib.hid (fun W v (h : DgAt W v dv) => show RdOk s (.returned (.tuple #[.agg #[.bool true, .bool false, .bool false, v, .int .i64 xn], .bool true])) W from by unfold RdOk; rw [HRe.out]; exact ⟨v, rfl, h⟩)
          clear HRd2 hjs hxn
          have r0 := HR2.out.r0
          have r1 := HR2.out.r1
          have r2 := HR2.out.r2
          have r3 := HR2.out.r3
          have r4 := HR2.out.r4
          have f0 := HR2.out.fr 0
          have f1 := HR2.out.fr 1
          have f2 := HR2.out.fr 2
          have f3 := HR2.out.fr 3
          have f4 := HR2.out.fr 4
          have t0 := HR2.out.t0
          have t1 := HR2.out.t1
          have t2 := HR2.out.t2
          have t3 := HR2.out.t3
          have t4 := HR2.out.t4
          have u0 := HR2.out.ft 0
          have u1 := HR2.out.ft 1
          have u2 := HR2.out.ft 2
          have u3 := HR2.out.ft 3
          have u4 := HR2.out.ft 4
          have hnum := HR2.out.num (.slice A nl c) (.int .i64 xn)
          obtain ⟨y0, y1, y2, y3, y4, z0, z1, z2, z3, z4⟩ := hnum
          have hq := set5_cells z0 z1 z2 z3 z4 (.bool true) (.bool false) (.bool false) (.slice A nl c) (.int .i64 xn)
          have hdq := set5_dg (HR2.out.numDg HD2.out (.int .i64 xn)) z0 z1 z2 z3 z4 (.bool true) (.bool false) (.bool false) (.slice A nl c) (.int .i64 xn)
          have hbl := set5_below (HR2.out.numBl (.slice A nl c) (.int .i64 xn)) (Nat.le_refl _) (.bool true) (.bool false) (.bool false) (.slice A nl c) (.int .i64 xn)
          unfold set5 setT at hq hdq hbl
          unfold setT at y0 y1 y2 y3 y4
          have HBq := Lib.hid hbl
          have HDq := Lib.hid hdq
          have HQ5 := Lib.hid hq
          clear hbl hdq hq z0 z1 z2 z3 z4
          go_wp2
          obtain ⟨q0, q1, q2, q3, q4⟩ := HQ5.out
          refine bodyPost_ret (v := .tuple #[.agg #[.bool true, .bool false, .bool false, (.slice A nl c), .int .i64 xn], .bool true]) (by simp [results, Tryz.results147, go_sem, q0, q1, q2, q3, q4]) rfl ?_
          exact ⟨HO.out _ _ HDq.out, HBq.out⟩

    · have HRe := Lib.hid (show rdAt s = some (1, true, 0, 0) by rw [HRd.out, if_pos (of_decide_eq_true HFi.out)])
      have HO := Lib.hid (fun W => show RdOk s (.returned (.tuple #[.agg #[.bool true, .bool true, .bool false, .slice none 0 0, .int .i64 0], .bool true])) W from by unfold RdOk; rw [HRe.out]; exact ⟨_, rfl, DgAt.nil W⟩)
      clear HRd HFi hii hib HMt
      have r0 := HR.out.r0
      have r1 := HR.out.r1
      have r2 := HR.out.r2
      have r3 := HR.out.r3
      have r4 := HR.out.r4
      have f0 := HR.out.fr 0
      have f1 := HR.out.fr 1
      have f2 := HR.out.fr 2
      have f3 := HR.out.fr 3
      have f4 := HR.out.fr 4
      have t0 := HR.out.t0
      have t1 := HR.out.t1
      have t2 := HR.out.t2
      have t3 := HR.out.t3
      have t4 := HR.out.t4
      have u0 := HR.out.ft 0
      have u1 := HR.out.ft 1
      have u2 := HR.out.ft 2
      have u3 := HR.out.ft 3
      have u4 := HR.out.ft 4
      obtain ⟨y0, y1, y2, y3, y4, z0, z1, z2, z3, z4⟩ := HR.out.inf
      have hq := set5_cells z0 z1 z2 z3 z4 (.bool true) (.bool true) (.bool false) (.slice none 0 0) (.int .i64 0)
      have hbl := set5_below (HR.out.bl.setCell (p := ⟨w.heap.size + 1, 1, none⟩) (Nat.le_succ _) (.bool true)) (Nat.le_refl _) (.bool true) (.bool true) (.bool false) (.slice none 0 0) (.int .i64 0)
      unfold set5 at hq hbl
      have HBq := Lib.hid hbl
      have HQ5 := Lib.hid hq
      clear hbl hq
      go_wp2
      obtain ⟨q0, q1, q2, q3, q4⟩ := HQ5.out
      refine bodyPost_ret (v := .tuple #[.agg #[.bool true, .bool true, .bool false, .slice none 0 0, .int .i64 0], .bool true]) (by simp [results, Tryz.results147, go_sem, q0, q1, q2, q3, q4]) rfl ?_
      exact ⟨HO.out _, HBq.out⟩

set_option maxRecDepth 100000 in
set_option maxHeartbeats 8000000 in
theorem read_bare (s : ByteArray) (hs : s.size ≤ 4000) (hn : s ≠ nanS) (h : 0 < s.size) (e1 : (by8 s 0).toNat ≠ 43 ∧ (by8 s 0).toNat ≠ 45) (e2 : sgI s 0 = 0) (e3 : sgB s 0 = false) (w : World) :
    Calls Tryz.prog 147 #[.string s] w fun e w' => RdOk s e w' ∧ Below w.heap.size w w' := by
  have hnb : (s.toList == [110, 97, 110]) = false := (str_eq s nanS).trans (decide_eq_false hn)
  have hi0 : sgI s 0 ≤ s.size := sgI_le s 0 (Nat.zero_le _)
  have hix : 0 < s.size → ∀ w1, (Instr.index 9 (.string s) (.int .i64 0)).run Tryz.prog w1 = .ok (.int .u8 ((by8 s 0).toNat : Int)) w1 := fun h w1 => run_byte s 0 h (by omega) w1
  have hib : ((s.extract (sgI s 0) s.size).toList == [105, 110, 102]) = decide (s.extract (sgI s 0) s.size = infS) := str_eq _ infS
  have hRd : rdAt s = if s.extract (sgI s 0) s.size = infS then some (1, sgB s 0, 0, 0) else
      if mS s (sgI s 0) = false then none else
      if dK s (sgI s 0) < s.size then
        if isE s (dK s (sgI s 0)) = true then
          if exO s (dK s (sgI s 0) + 1) = true then some (2, sgB s 0, dcV ((dW s (sgI s 0)).data.toList ++ (dP s (sgI s 0)).data.toList), exR s (dK s (sgI s 0) + 1) - ((dP s (sgI s 0)).size : Int)) else none
        else none
      else some (2, sgB s 0, dcV ((dW s (sgI s 0)).data.toList ++ (dP s (sgI s 0)).data.toList), 0 - ((dP s (sgI s 0)).size : Int)) := by
    conv => lhs; unfold rdAt
    rw [if_neg hn]
  have hMt := fun W => mantissa_walk s (sgI s 0) hi0 hs W
  have hle := dP_le s (sgI s 0) hi0
  obtain ⟨k, hk⟩ : ∃ k, sgI s 0 = k := ⟨_, rfl⟩
  obtain ⟨ng, hng⟩ : ∃ ng, sgB s 0 = ng := ⟨_, rfl⟩
  obtain ⟨n, hn2⟩ : ∃ n, (by8 s 0).toNat = n := ⟨_, rfl⟩
  obtain ⟨fi, hfi⟩ : ∃ b, decide (s.extract k s.size = infS) = b := ⟨_, rfl⟩
  simp only [hk, hng, hn2] at e1 e2 e3 hix hib hRd hMt hi0 hle
  rw [hfi] at hib
  obtain ⟨dv, hdv⟩ : ∃ d, dcV ((dW s k).data.toList ++ (dP s k).data.toList) = d := ⟨_, rfl⟩
  obtain ⟨pl, hpl⟩ : ∃ p, (dP s k).size = p := ⟨_, rfl⟩
  obtain ⟨j, hj⟩ : ∃ j, dK s k = j := ⟨_, rfl⟩
  obtain ⟨sm, hsm⟩ : ∃ b, mS s k = b := ⟨_, rfl⟩
  simp only [hdv, hpl, hj, hsm] at hRd hMt hle
  have HS := Lib.hid (show s.size ≤ 4000 ∧ j ≤ s.size ∧ pl ≤ s.size from ⟨hs, hle.2.1, hle.2.2.2⟩)
  have HFi := Lib.hid hfi
  have HRd := Lib.hid hRd
  have HMt := Lib.hid hMt
  have hii : (k : Int) ≤ (s.size : Int) := by omega
  clear hRd hMt hle hk hng hn2 hfi hdv hpl hj hsm hi0 hn
  subst e3
  have hix := hix h
  obtain ⟨e1, e0⟩ := e1
  subst e2
  rw [ext_self8] at hib
  have g0 : (0 : Int) < (s.size : Int) := by omega
  have g1 : ((n : Int) == 43) = false := by rw [beq_eq_false_iff_ne]; omega
  have g2 : ((n : Int) == 45) = false := by rw [beq_eq_false_iff_ne]; omega
  clear h e1 e0 hs
  go_enter Tryz.func147, Tryz.ntmps147
  go_upto_region 7 with fail
  go_cut [5, 42] (fun a b wx => a = .int .i64 0 ∧ b = .bool fi ∧ Hid (RdS w wx false))
  case first =>
    go_wp2_with fail
    go_meet
    exact ⟨rfl, by first | rfl | exact congrArg Value.bool hib, Lib.hid (RdS.new w false)⟩
  case rest =>
    obtain ⟨rfl, rfl, HR⟩ := hcut
    clear hnb g0 hix g1 g2
    cases fi
    · have HRd2 := Lib.hid (show rdAt s = _ from by rw [HRd.out, if_neg (of_decide_eq_false HFi.out)])
      clear HRd HFi hii hib
      go_wp2_with fail
      refine (HMt.out _).mono ?_
      rintro r w2 ⟨v2, rfl, hd2, hb2⟩
      obtain ⟨A, c, rfl, _, _, _⟩ := id hd2
      obtain ⟨nl, hnl⟩ : ∃ nl, (toD dv).length = nl := ⟨_, rfl⟩
      rw [hnl] at hd2 ⊢
      have HR2 := Lib.hid (HR.out.below hb2)
      have HD2 := Lib.hid hd2
      clear hb2 hd2 hnl HMt HR
      cases sm
      · have HRe := Lib.hid (show rdAt s = none by rw [HRd2.out, if_pos rfl])
        have HO := Lib.hid (fun W => show RdOk s (.returned (.tuple #[.agg #[.bool false, .bool false, .bool false, .slice none 0 0, .int .i64 0], .bool false])) W from by unfold RdOk; rw [HRe.out])
        clear HRd2
        have r0 := HR2.out.r0
        have r1 := HR2.out.r1
        have r2 := HR2.out.r2
        have r3 := HR2.out.r3
        have r4 := HR2.out.r4
        have f0 := HR2.out.fr 0
        have f1 := HR2.out.fr 1
        have f2 := HR2.out.fr 2
        have f3 := HR2.out.fr 3
        have f4 := HR2.out.fr 4
        have hq := set5_cells r0 r1 r2 r3 r4 (.bool false) (.bool false) (.bool false) (.slice none 0 0) (.int .i64 0)
        have hbl := set5_below HR2.out.bl (Nat.le_refl _) (.bool false) (.bool false) (.bool false) (.slice none 0 0) (.int .i64 0)
        unfold set5 at hq hbl
        have HBq := Lib.hid hbl
        have HQ5 := Lib.hid hq
        clear hbl hq
        go_wp2
        obtain ⟨q0, q1, q2, q3, q4⟩ := HQ5.out
        refine bodyPost_ret (v := .tuple #[.agg #[.bool false, .bool false, .bool false, .slice none 0 0, .int .i64 0], .bool false]) (by simp [results, Tryz.results147, go_sem, q0, q1, q2, q3, q4]) rfl ?_
        exact ⟨HO.out _, HBq.out⟩

      · have HRd2 := Lib.hid (show rdAt s = _ from by rw [HRd2.out, if_neg (by decide)])
        by_cases hjs : j < s.size
        · have hix := fun w1 => run_byte s j hjs (by have := HS.out.1; omega) w1
          have HJ := Lib.hid hjs
          have HEx := Lib.hid (fun W => exponent_walk8 s (j + 1) (by omega) HS.out.1 W)
          have g3 : (j : Int) < (s.size : Int) := by omega
          have p3 : IntKind.i64.wrap ((j : Int) + 1) = ((j + 1 : Nat) : Int) := by have := HS.out.1; rw [IntKind.wrap_i64]; omega
          obtain ⟨xr, hxr⟩ : ∃ x, exR s (j + 1) = x := ⟨_, rfl⟩
          obtain ⟨xo, hxo⟩ : ∃ x, exO s (j + 1) = x := ⟨_, rfl⟩
          obtain ⟨xn, hxn⟩ : ∃ x : Int, xr - (pl : Int) = x := ⟨_, rfl⟩
          have hxb := exR_bound s (j + 1)
          rw [hxr] at hxb
          have p4 : IntKind.i64.wrap (xr - (pl : Int)) = xn := by have := HS.out; rw [IntKind.wrap_i64]; omega
          rw [hxr, hxo] at HEx
          have HXo := Lib.hid hxo
          have HXn := Lib.hid (show exR s (j + 1) - (pl : Int) = xn by rw [hxr]; exact hxn)
          have hE1 := @isE_yes s j hjs
          have hE0 := @isE_no s j
          obtain ⟨n3, hn3⟩ : ∃ n, (by8 s j).toNat = n := ⟨_, rfl⟩
          simp only [hn3] at hix hE1 hE0
          clear hjs hxr hxo hxn hxb hn3
          by_cases c1 : n3 = 101
          · have hE := Lib.hid (hE1 (.inl c1))
            clear hE1 hE0
            have g4 : ((n3 : Int) != 101) = false := by rw [bne_eq_false_iff_eq]; omega
            clear c1
            go_wp2_with fail
            refine (HEx.out _).mono ?_
            rintro r w3 ⟨rfl, hb3⟩
            have HR3 := Lib.hid (HR2.out.below hb3)
            have HD3 := Lib.hid (HD2.out.below hb3)
            clear hb3 HR2 HD2
            cases xo
            · have HRe := Lib.hid (show rdAt s = none by rw [HRd2.out, if_pos HJ.out, if_pos hE.out, if_neg (by rw [HXo.out]; decide)])
              have HO := Lib.hid (fun W => show RdOk s (.returned (.tuple #[.agg #[.bool false, .bool false, .bool false, .slice none 0 0, .int .i64 0], .bool false])) W from by unfold RdOk; rw [HRe.out])
              have r0 := HR3.out.r0
              have r1 := HR3.out.r1
              have r2 := HR3.out.r2
              have r3 := HR3.out.r3
              have r4 := HR3.out.r4
              have f0 := HR3.out.fr 0
              have f1 := HR3.out.fr 1
              have f2 := HR3.out.fr 2
              have f3 := HR3.out.fr 3
              have f4 := HR3.out.fr 4
              have hq := set5_cells r0 r1 r2 r3 r4 (.bool false) (.bool false) (.bool false) (.slice none 0 0) (.int .i64 0)
              have hbl := set5_below HR3.out.bl (Nat.le_refl _) (.bool false) (.bool false) (.bool false) (.slice none 0 0) (.int .i64 0)
              unfold set5 at hq hbl
              have HBq := Lib.hid hbl
              have HQ5 := Lib.hid hq
              clear hbl hq
              go_wp2
              obtain ⟨q0, q1, q2, q3, q4⟩ := HQ5.out
              refine bodyPost_ret (v := .tuple #[.agg #[.bool false, .bool false, .bool false, .slice none 0 0, .int .i64 0], .bool false]) (by simp [results, Tryz.results147, go_sem, q0, q1, q2, q3, q4]) rfl ?_
              exact ⟨HO.out _, HBq.out⟩

            · have HRe := Lib.hid (show rdAt s = some (2, false, dv, xn) by rw [HRd2.out, if_pos HJ.out, if_pos hE.out, if_pos HXo.out, HXn.out])
              have HO := Lib.hid (fun W v (h : DgAt W v dv) => show RdOk s (.returned (.tuple #[.agg #[.bool false, .bool false, .bool false, v, .int .i64 xn], .bool true])) W from by unfold RdOk; rw [HRe.out]; exact ⟨v, rfl, h⟩)
              have r0 := HR3.out.r0
              have r1 := HR3.out.r1
              have r2 := HR3.out.r2
              have r3 := HR3.out.r3
              have r4 := HR3.out.r4
              have f0 := HR3.out.fr 0
              have f1 := HR3.out.fr 1
              have f2 := HR3.out.fr 2
              have f3 := HR3.out.fr 3
              have f4 := HR3.out.fr 4
              have t0 := HR3.out.t0
              have t1 := HR3.out.t1
              have t2 := HR3.out.t2
              have t3 := HR3.out.t3
              have t4 := HR3.out.t4
              have u0 := HR3.out.ft 0
              have u1 := HR3.out.ft 1
              have u2 := HR3.out.ft 2
              have u3 := HR3.out.ft 3
              have u4 := HR3.out.ft 4
              have hnum := HR3.out.num (.slice A nl c) (.int .i64 xn)
              obtain ⟨y0, y1, y2, y3, y4, z0, z1, z2, z3, z4⟩ := hnum
              have hq := set5_cells z0 z1 z2 z3 z4 (.bool false) (.bool false) (.bool false) (.slice A nl c) (.int .i64 xn)
              have hdq := set5_dg (HR3.out.numDg HD3.out (.int .i64 xn)) z0 z1 z2 z3 z4 (.bool false) (.bool false) (.bool false) (.slice A nl c) (.int .i64 xn)
              have hbl := set5_below (HR3.out.numBl (.slice A nl c) (.int .i64 xn)) (Nat.le_refl _) (.bool false) (.bool false) (.bool false) (.slice A nl c) (.int .i64 xn)
              unfold set5 setT at hq hdq hbl
              unfold setT at y0 y1 y2 y3 y4
              have HBq := Lib.hid hbl
              have HDq := Lib.hid hdq
              have HQ5 := Lib.hid hq
              clear hbl hdq hq z0 z1 z2 z3 z4
              go_wp2
              obtain ⟨q0, q1, q2, q3, q4⟩ := HQ5.out
              refine bodyPost_ret (v := .tuple #[.agg #[.bool false, .bool false, .bool false, (.slice A nl c), .int .i64 xn], .bool true]) (by simp [results, Tryz.results147, go_sem, q0, q1, q2, q3, q4]) rfl ?_
              exact ⟨HO.out _ _ HDq.out, HBq.out⟩

          · by_cases c2 : n3 = 69
            · have hE := Lib.hid (hE1 (.inr c2))
              clear hE1 hE0
              have g4 : ((n3 : Int) != 101) = true := by rw [bne_iff_ne]; omega
              have g5 : ((n3 : Int) != 69) = false := by rw [bne_eq_false_iff_eq]; omega
              clear c1 c2
              go_wp2_with fail
              refine (HEx.out _).mono ?_
              rintro r w3 ⟨rfl, hb3⟩
              have HR3 := Lib.hid (HR2.out.below hb3)
              have HD3 := Lib.hid (HD2.out.below hb3)
              clear hb3 HR2 HD2
              cases xo
              · have HRe := Lib.hid (show rdAt s = none by rw [HRd2.out, if_pos HJ.out, if_pos hE.out, if_neg (by rw [HXo.out]; decide)])
                have HO := Lib.hid (fun W => show RdOk s (.returned (.tuple #[.agg #[.bool false, .bool false, .bool false, .slice none 0 0, .int .i64 0], .bool false])) W from by unfold RdOk; rw [HRe.out])
                have r0 := HR3.out.r0
                have r1 := HR3.out.r1
                have r2 := HR3.out.r2
                have r3 := HR3.out.r3
                have r4 := HR3.out.r4
                have f0 := HR3.out.fr 0
                have f1 := HR3.out.fr 1
                have f2 := HR3.out.fr 2
                have f3 := HR3.out.fr 3
                have f4 := HR3.out.fr 4
                have hq := set5_cells r0 r1 r2 r3 r4 (.bool false) (.bool false) (.bool false) (.slice none 0 0) (.int .i64 0)
                have hbl := set5_below HR3.out.bl (Nat.le_refl _) (.bool false) (.bool false) (.bool false) (.slice none 0 0) (.int .i64 0)
                unfold set5 at hq hbl
                have HBq := Lib.hid hbl
                have HQ5 := Lib.hid hq
                clear hbl hq
                go_wp2
                obtain ⟨q0, q1, q2, q3, q4⟩ := HQ5.out
                refine bodyPost_ret (v := .tuple #[.agg #[.bool false, .bool false, .bool false, .slice none 0 0, .int .i64 0], .bool false]) (by simp [results, Tryz.results147, go_sem, q0, q1, q2, q3, q4]) rfl ?_
                exact ⟨HO.out _, HBq.out⟩

              · have HRe := Lib.hid (show rdAt s = some (2, false, dv, xn) by rw [HRd2.out, if_pos HJ.out, if_pos hE.out, if_pos HXo.out, HXn.out])
                have HO := Lib.hid (fun W v (h : DgAt W v dv) => show RdOk s (.returned (.tuple #[.agg #[.bool false, .bool false, .bool false, v, .int .i64 xn], .bool true])) W from by unfold RdOk; rw [HRe.out]; exact ⟨v, rfl, h⟩)
                have r0 := HR3.out.r0
                have r1 := HR3.out.r1
                have r2 := HR3.out.r2
                have r3 := HR3.out.r3
                have r4 := HR3.out.r4
                have f0 := HR3.out.fr 0
                have f1 := HR3.out.fr 1
                have f2 := HR3.out.fr 2
                have f3 := HR3.out.fr 3
                have f4 := HR3.out.fr 4
                have t0 := HR3.out.t0
                have t1 := HR3.out.t1
                have t2 := HR3.out.t2
                have t3 := HR3.out.t3
                have t4 := HR3.out.t4
                have u0 := HR3.out.ft 0
                have u1 := HR3.out.ft 1
                have u2 := HR3.out.ft 2
                have u3 := HR3.out.ft 3
                have u4 := HR3.out.ft 4
                have hnum := HR3.out.num (.slice A nl c) (.int .i64 xn)
                obtain ⟨y0, y1, y2, y3, y4, z0, z1, z2, z3, z4⟩ := hnum
                have hq := set5_cells z0 z1 z2 z3 z4 (.bool false) (.bool false) (.bool false) (.slice A nl c) (.int .i64 xn)
                have hdq := set5_dg (HR3.out.numDg HD3.out (.int .i64 xn)) z0 z1 z2 z3 z4 (.bool false) (.bool false) (.bool false) (.slice A nl c) (.int .i64 xn)
                have hbl := set5_below (HR3.out.numBl (.slice A nl c) (.int .i64 xn)) (Nat.le_refl _) (.bool false) (.bool false) (.bool false) (.slice A nl c) (.int .i64 xn)
                unfold set5 setT at hq hdq hbl
                unfold setT at y0 y1 y2 y3 y4
                have HBq := Lib.hid hbl
                have HDq := Lib.hid hdq
                have HQ5 := Lib.hid hq
                clear hbl hdq hq z0 z1 z2 z3 z4
                go_wp2
                obtain ⟨q0, q1, q2, q3, q4⟩ := HQ5.out
                refine bodyPost_ret (v := .tuple #[.agg #[.bool false, .bool false, .bool false, (.slice A nl c), .int .i64 xn], .bool true]) (by simp [results, Tryz.results147, go_sem, q0, q1, q2, q3, q4]) rfl ?_
                exact ⟨HO.out _ _ HDq.out, HBq.out⟩

            · have HRe := Lib.hid (show rdAt s = none by rw [HRd2.out, if_pos HJ.out, if_neg (by rw [hE0 c1 c2]; decide)])
              have HO := Lib.hid (fun W => show RdOk s (.returned (.tuple #[.agg #[.bool false, .bool false, .bool false, .slice none 0 0, .int .i64 0], .bool false])) W from by unfold RdOk; rw [HRe.out])
              have g4 : ((n3 : Int) != 101) = true := by rw [bne_iff_ne]; omega
              have g5 : ((n3 : Int) != 69) = true := by rw [bne_iff_ne]; omega
              clear hE1 hE0 c1 c2 HRd2
              have r0 := HR2.out.r0
              have r1 := HR2.out.r1
              have r2 := HR2.out.r2
              have r3 := HR2.out.r3
              have r4 := HR2.out.r4
              have f0 := HR2.out.fr 0
              have f1 := HR2.out.fr 1
              have f2 := HR2.out.fr 2
              have f3 := HR2.out.fr 3
              have f4 := HR2.out.fr 4
              have hq := set5_cells r0 r1 r2 r3 r4 (.bool false) (.bool false) (.bool false) (.slice none 0 0) (.int .i64 0)
              have hbl := set5_below HR2.out.bl (Nat.le_refl _) (.bool false) (.bool false) (.bool false) (.slice none 0 0) (.int .i64 0)
              unfold set5 at hq hbl
              have HBq := Lib.hid hbl
              have HQ5 := Lib.hid hq
              clear hbl hq
              go_wp2
              obtain ⟨q0, q1, q2, q3, q4⟩ := HQ5.out
              refine bodyPost_ret (v := .tuple #[.agg #[.bool false, .bool false, .bool false, .slice none 0 0, .int .i64 0], .bool false]) (by simp [results, Tryz.results147, go_sem, q0, q1, q2, q3, q4]) rfl ?_
              exact ⟨HO.out _, HBq.out⟩

        · have HRe := Lib.hid (show rdAt s = some (2, false, dv, 0 - (pl : Int)) by rw [HRd2.out, if_neg hjs])
          have g3 : ¬ (j : Int) < (s.size : Int) := by omega
          obtain ⟨xn, hxn⟩ : ∃ x : Int, -(pl : Int) = x := ⟨_, rfl⟩
          have p4 : IntKind.i64.wrap (-(pl : Int)) = xn := by have := HS.out; rw [IntKind.wrap_i64]; omega
          have p5 : IntKind.i64.wrap (0 - (pl : Int)) = xn := by have := HS.out; rw [IntKind.wrap_i64]; omega
          rw [show (0 : Int) - (pl : Int) = xn by omega] at HRe
          have HO := Lib.hid (fun W v (h : DgAt W v dv) => show RdOk s (.returned (.tuple #[.agg #[.bool false, .bool false, .bool false, v, .int .i64 xn], .bool true])) W from by unfold RdOk; rw [HRe.out]; exact ⟨v, rfl, h⟩)
          clear HRd2 hjs hxn
          have r0 := HR2.out.r0
          have r1 := HR2.out.r1
          have r2 := HR2.out.r2
          have r3 := HR2.out.r3
          have r4 := HR2.out.r4
          have f0 := HR2.out.fr 0
          have f1 := HR2.out.fr 1
          have f2 := HR2.out.fr 2
          have f3 := HR2.out.fr 3
          have f4 := HR2.out.fr 4
          have t0 := HR2.out.t0
          have t1 := HR2.out.t1
          have t2 := HR2.out.t2
          have t3 := HR2.out.t3
          have t4 := HR2.out.t4
          have u0 := HR2.out.ft 0
          have u1 := HR2.out.ft 1
          have u2 := HR2.out.ft 2
          have u3 := HR2.out.ft 3
          have u4 := HR2.out.ft 4
          have hnum := HR2.out.num (.slice A nl c) (.int .i64 xn)
          obtain ⟨y0, y1, y2, y3, y4, z0, z1, z2, z3, z4⟩ := hnum
          have hq := set5_cells z0 z1 z2 z3 z4 (.bool false) (.bool false) (.bool false) (.slice A nl c) (.int .i64 xn)
          have hdq := set5_dg (HR2.out.numDg HD2.out (.int .i64 xn)) z0 z1 z2 z3 z4 (.bool false) (.bool false) (.bool false) (.slice A nl c) (.int .i64 xn)
          have hbl := set5_below (HR2.out.numBl (.slice A nl c) (.int .i64 xn)) (Nat.le_refl _) (.bool false) (.bool false) (.bool false) (.slice A nl c) (.int .i64 xn)
          unfold set5 setT at hq hdq hbl
          unfold setT at y0 y1 y2 y3 y4
          have HBq := Lib.hid hbl
          have HDq := Lib.hid hdq
          have HQ5 := Lib.hid hq
          clear hbl hdq hq z0 z1 z2 z3 z4
          go_wp2
          obtain ⟨q0, q1, q2, q3, q4⟩ := HQ5.out
          refine bodyPost_ret (v := .tuple #[.agg #[.bool false, .bool false, .bool false, (.slice A nl c), .int .i64 xn], .bool true]) (by simp [results, Tryz.results147, go_sem, q0, q1, q2, q3, q4]) rfl ?_
          exact ⟨HO.out _ _ HDq.out, HBq.out⟩

    · have HRe := Lib.hid (show rdAt s = some (1, false, 0, 0) by rw [HRd.out, if_pos (of_decide_eq_true HFi.out)])
      have HO := Lib.hid (fun W => show RdOk s (.returned (.tuple #[.agg #[.bool false, .bool true, .bool false, .slice none 0 0, .int .i64 0], .bool true])) W from by unfold RdOk; rw [HRe.out]; exact ⟨_, rfl, DgAt.nil W⟩)
      clear HRd HFi hii hib HMt
      have r0 := HR.out.r0
      have r1 := HR.out.r1
      have r2 := HR.out.r2
      have r3 := HR.out.r3
      have r4 := HR.out.r4
      have f0 := HR.out.fr 0
      have f1 := HR.out.fr 1
      have f2 := HR.out.fr 2
      have f3 := HR.out.fr 3
      have f4 := HR.out.fr 4
      have t0 := HR.out.t0
      have t1 := HR.out.t1
      have t2 := HR.out.t2
      have t3 := HR.out.t3
      have t4 := HR.out.t4
      have u0 := HR.out.ft 0
      have u1 := HR.out.ft 1
      have u2 := HR.out.ft 2
      have u3 := HR.out.ft 3
      have u4 := HR.out.ft 4
      obtain ⟨y0, y1, y2, y3, y4, z0, z1, z2, z3, z4⟩ := HR.out.inf
      have hq := set5_cells z0 z1 z2 z3 z4 (.bool false) (.bool true) (.bool false) (.slice none 0 0) (.int .i64 0)
      have hbl := set5_below (HR.out.bl.setCell (p := ⟨w.heap.size + 1, 1, none⟩) (Nat.le_succ _) (.bool true)) (Nat.le_refl _) (.bool false) (.bool true) (.bool false) (.slice none 0 0) (.int .i64 0)
      unfold set5 at hq hbl
      have HBq := Lib.hid hbl
      have HQ5 := Lib.hid hq
      clear hbl hq
      go_wp2
      obtain ⟨q0, q1, q2, q3, q4⟩ := HQ5.out
      refine bodyPost_ret (v := .tuple #[.agg #[.bool false, .bool true, .bool false, .slice none 0 0, .int .i64 0], .bool true]) (by simp [results, Tryz.results147, go_sem, q0, q1, q2, q3, q4]) rfl ?_
      exact ⟨HO.out _, HBq.out⟩

set_option maxRecDepth 100000 in
set_option maxHeartbeats 8000000 in
theorem read_none (w : World) :
    Calls Tryz.prog 147 #[.string ⟨#[]⟩] w fun e w' => RdOk ⟨#[]⟩ e w' ∧ Below w.heap.size w w' := by
  have HRe := Lib.hid (show rdAt ⟨#[]⟩ = none by decide)
  have HO := Lib.hid (fun W => show RdOk ⟨#[]⟩ (.returned (.tuple #[.agg #[.bool false, .bool false, .bool false, .slice none 0 0, .int .i64 0], .bool false])) W from by unfold RdOk; rw [HRe.out])
  have hMt := fun W => mantissa_walk ⟨#[]⟩ 0 (by decide) (by decide) W
  rw [show mS ⟨#[]⟩ 0 = false by decide] at hMt
  have HMt := Lib.hid hMt
  have hnb : ((⟨#[]⟩ : ByteArray).toList == [110, 97, 110]) = false := (str_eq _ nanS).trans (decide_eq_false (by decide))
  have hib : ((⟨#[]⟩ : ByteArray).toList == [105, 110, 102]) = false := (str_eq _ infS).trans (decide_eq_false (by decide))
  have hs0 : (⟨#[]⟩ : ByteArray).size = 0 := rfl
  have hex : (⟨#[]⟩ : ByteArray).extract 0 0 = ⟨#[]⟩ := by decide
  clear hMt
  obtain ⟨S, hS⟩ : ∃ S : ByteArray, ⟨#[]⟩ = S := ⟨_, rfl⟩
  simp only [hS] at hnb hib hs0 hex HO HMt ⊢
  clear hS HRe
  obtain ⟨pl, hpl⟩ : ∃ p, (dP S 0).size = p := ⟨_, rfl⟩
  obtain ⟨j, hj⟩ : ∃ j, dK S 0 = j := ⟨_, rfl⟩
  simp only [hpl, hj] at HMt
  have HR := Lib.hid (RdS.new w false)
  clear hpl hj
  go_enter Tryz.func147, Tryz.ntmps147
  go_wp2_with fail
  refine (HMt.out _).mono ?_
  rintro r w2 ⟨v2, rfl, hd2, hb2⟩
  have HR2 := Lib.hid (HR.out.below hb2)
  clear hb2 hd2 HMt HR hnb hib hs0 hex
  have r0 := HR2.out.r0
  have r1 := HR2.out.r1
  have r2 := HR2.out.r2
  have r3 := HR2.out.r3
  have r4 := HR2.out.r4
  have f0 := HR2.out.fr 0
  have f1 := HR2.out.fr 1
  have f2 := HR2.out.fr 2
  have f3 := HR2.out.fr 3
  have f4 := HR2.out.fr 4
  have hq := set5_cells r0 r1 r2 r3 r4 (.bool false) (.bool false) (.bool false) (.slice none 0 0) (.int .i64 0)
  have hbl := set5_below HR2.out.bl (Nat.le_refl _) (.bool false) (.bool false) (.bool false) (.slice none 0 0) (.int .i64 0)
  unfold set5 at hq hbl
  have HBq := Lib.hid hbl
  have HQ5 := Lib.hid hq
  clear hbl hq
  go_wp2
  obtain ⟨q0, q1, q2, q3, q4⟩ := HQ5.out
  refine bodyPost_ret (v := .tuple #[.agg #[.bool false, .bool false, .bool false, .slice none 0 0, .int .i64 0], .bool false]) (by simp [results, Tryz.results147, go_sem, q0, q1, q2, q3, q4]) rfl ?_
  exact ⟨HO.out _, HBq.out⟩
theorem read_walk (s : ByteArray) (hs : s.size ≤ 4000) (w : World) :
    Calls Tryz.prog 147 #[.string s] w fun e w' => RdOk s e w' ∧ Below w.heap.size w w' := by
  by_cases hn : s = nanS
  · subst hn; exact read_nan w
  by_cases h : 0 < s.size
  · by_cases c1 : by8 s 0 = 43
    · exact read_plus s hs hn h (by rw [c1]; rfl) (by unfold sgI; simp [h, c1]) (by unfold sgB; simp [c1]) w
    · by_cases c2 : by8 s 0 = 45
      · exact read_minus s hs hn h (by rw [c2]; rfl) (by unfold sgI; simp [h, c2]) (by unfold sgB; simp [h, c2]) w
      · exact read_bare s hs hn h ⟨fun e => c1 (UInt8.toNat_inj.1 e), fun e => c2 (UInt8.toNat_inj.1 e)⟩ (by unfold sgI; simp [c1, c2]) (by unfold sgB; simp [c2]) w
  · have e : s = ⟨#[]⟩ := by
      cases s with
      | mk d =>
        have : d.size = 0 := by have h2 : (ByteArray.mk d).size = d.size := rfl; omega
        rw [Array.eq_empty_of_size_eq_zero this]
    subst e
    exact read_none w
end Go.Proofs.YtmfjimmodaofdaaGreatDoor
