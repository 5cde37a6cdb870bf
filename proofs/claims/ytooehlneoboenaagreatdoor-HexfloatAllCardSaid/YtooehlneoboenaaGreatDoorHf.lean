/- The walk of hexfloat's reader: number. -/
import Derived.Test.YtooehlneoboenaaGreatDoorHe
namespace Go.Proofs.YtooehlneoboenaaGreatDoor
open Go.RowKit

theorem mem2 (x y c : UInt8) (h : c = x ∨ c = y) : (⟨#[x, y]⟩ : ByteArray).data.toList.contains c = true := by
  rcases h with h | h <;> subst h <;> simp
theorem mem2_no (x y c : UInt8) (h : ¬ (c = x ∨ c = y)) : (⟨#[x, y]⟩ : ByteArray).data.toList.contains c = false := by
  have h1 : ¬ c = x := fun e => h (.inl e)
  have h2 : ¬ c = y := fun e => h (.inr e)
  simp [h1, h2]
theorem mem1 (x c : UInt8) (h : c = x) : (⟨#[x]⟩ : ByteArray).data.toList.contains c = true := by subst h; simp
theorem mem1_no (x c : UInt8) (h : ¬ c = x) : (⟨#[x]⟩ : ByteArray).data.toList.contains c = false := by simp [h]

theorem empty_iff (x : ByteArray) : x.toList.isEmpty = decide (x.size = 0) := by
  rw [Lib.toList_data]
  have e : x.size = x.data.toList.length := by rw [Array.length_toList]; rfl
  rw [e]
  cases x.data.toList <;> simp

set_option maxRecDepth 100000 in
set_option maxHeartbeats 2000000 in
theorem number_walk (b : Nat) (s : ByteArray) (i : Nat) (w : World) (hB : Box2 w b (.string s) (.int .i64 (i : Int))) (hs : s.size ≤ 4100) :
    Calls Tryz.prog 33 #[.pointer (some ⟨b, 0, none⟩)] w (NumPost b s i w) := by
  have HB := Lib.hid hB
  clear hB
  go_enter Tryz.func33, Tryz.ntmps33
  go_wp2_with fail
  by_cases c1 : i < s.size ∧ by8 s i = 48
  case neg =>
    refine (must_no b s ⟨#[48]⟩ i w HB.out (by omega) (fun h => mem1_no _ _ fun e => c1 ⟨h, e⟩)).mono ?_
    rintro e w1 ⟨rfl, hb1⟩
    have HN := Lib.hid (show numOf s i = none by unfold numOf; rw [if_pos c1])
    clear c1
    go_wp2
    exact ⟨rfl, NumPost.no HN.out _ hb1⟩
  refine (must_yes b s ⟨#[48]⟩ i w HB.out c1.1 (by omega) (mem1 _ _ c1.2)).mono ?_
  rintro e w1 ⟨rfl, hB1, hb1⟩
  have HB1 := Lib.hid hB1
  have HC1 := Lib.hid c1
  clear c1 hB1
  go_wp2_with fail
  by_cases c2 : i + 1 < s.size ∧ (by8 s (i + 1) = 120 ∨ by8 s (i + 1) = 88)
  case neg =>
    refine (must_no b s ⟨#[120, 88]⟩ (i + 1) w1 HB1.out (by omega) (fun h => mem2_no _ _ _ fun e => c2 ⟨h, e⟩)).mono ?_
    rintro e w2 ⟨rfl, hb2⟩
    have HN := Lib.hid (show numOf s i = none by unfold numOf; rw [if_neg (fun h => h HC1.out), if_pos c2])
    clear c2
    go_wp2
    exact ⟨rfl, NumPost.no HN.out _ (hb1.trans hb2)⟩
  refine (must_yes b s ⟨#[120, 88]⟩ (i + 1) w1 HB1.out c2.1 (by omega) (mem2 _ _ _ c2.2)).mono ?_
  rintro e w2 ⟨rfl, hB2, hb2⟩
  have HB2 := Lib.hid hB2
  have HC2 := Lib.hid c2
  have hj2 : i + 2 ≤ s.size := by have := c2.1; omega
  have HW2 := Lib.hid (hb1.trans hb2)
  have HDG := Lib.hid (dg_size s (i + 2) hj2)
  have HH := Lib.hid (dg_hex s (i + 2) hj2)
  clear c2 hB2 hb1 hb2
  go_wp2_with fail
  refine (hex_walk b s (i + 2) w2 HB2.out hj2 (by omega)).mono ?_
  rintro e w3 ⟨rfl, hB3, hb3⟩
  have HB3 := Lib.hid hB3
  have HW3 := Lib.hid (HW2.out.trans hb3)
  have h3 : hxE s (i + 2) ≤ s.size := runTo_le isHex s s.size _ hj2
  clear hB3 hb3
  go_wp2_with fail
  by_cases c3 : hxE s (i + 2) < s.size ∧ by8 s (hxE s (i + 2)) = 46
  · refine (take_yes b s ⟨#[46]⟩ _ w3 HB3.out c3.1 (by omega) (mem1 _ _ c3.2)).mono ?_
    rintro e w4 ⟨rfl, hB4, hb4⟩
    have HB4 := Lib.hid hB4
    have HW4 := Lib.hid (HW3.out.trans hb4)
    have h5 : hxE s (hxE s (i + 2) + 1) ≤ s.size := runTo_le isHex s s.size _ c3.1
    have hc3l := c3.1
    have ED := Lib.hid (show s.extract (i + 2) (hxE s (i + 2)) ++ s.extract (hxE s (i + 2) + 1) (hxE s (hxE s (i + 2) + 1)) = dgD s (i + 2) by unfold dgD; rw [if_pos c3])
    have EB := Lib.hid (show (s.extract (hxE s (i + 2) + 1) (hxE s (hxE s (i + 2) + 1))).size = dgB s (i + 2) by unfold dgB; rw [if_pos c3])
    have EE := Lib.hid (show hxE s (hxE s (i + 2) + 1) = dgE s (i + 2) by unfold dgE; rw [if_pos c3])
    have hz1 : (s.extract (i + 2) (hxE s (i + 2))).size ≤ 4100 := by rw [size_ext _ _ _ h3]; omega
    have hz2 : (s.extract (hxE s (i + 2) + 1) (hxE s (hxE s (i + 2) + 1))).size ≤ 4100 := by rw [size_ext _ _ _ h5]; omega
    clear c3 hB4 hb4
    go_wp2_with fail
    refine (hex_walk b s (hxE s (i + 2) + 1) w4 HB4.out (by omega) (by omega)).mono ?_
    rintro e w5 ⟨rfl, hB5, hb5⟩
    rw [EE.out] at hB5
    have HB5 := Lib.hid hB5
    have HW5 := Lib.hid (HW4.out.trans hb5)
    clear hB5 hb5
    generalize s.extract (i + 2) (hxE s (i + 2)) = d1 at *
    generalize s.extract (hxE s (i + 2) + 1) (hxE s (hxE s (i + 2) + 1)) = d2 at *
    by_cases c4 : (dgD s (i + 2)).size = 0
    case pos =>
      have hE : (d1 ++ d2).toList.isEmpty = true := by rw [empty_iff, ED.out]; exact decide_eq_true c4
      have HN := Lib.hid (show numOf s i = none by unfold numOf; rw [if_neg (fun h => h HC1.out), if_neg (fun h => h HC2.out), if_pos c4])
      clear c4
      go_wp2_with fail
      refine (fail_walk b s _ w5 HB5.out).mono ?_
      rintro e wz ⟨rfl, rfl⟩
      go_wp2
      exact ⟨rfl, NumPost.no HN.out _ HW5.out⟩
    have hE : (d1 ++ d2).toList.isEmpty = false := by rw [empty_iff, ED.out]; exact decide_eq_false c4
    have HC4 := Lib.hid c4
    clear c4
    go_wp2_with fail
    by_cases c5 : dgE s (i + 2) < s.size ∧ (by8 s (dgE s (i + 2)) = 112 ∨ by8 s (dgE s (i + 2)) = 80)
    case neg =>
      refine (must_no b s ⟨#[112, 80]⟩ _ w5 HB5.out (by omega) (fun h => mem2_no _ _ _ fun e => c5 ⟨h, e⟩)).mono ?_
      rintro e wz ⟨rfl, hbz⟩
      have HN := Lib.hid (show numOf s i = none by unfold numOf; rw [if_neg (fun h => h HC1.out), if_neg (fun h => h HC2.out), if_neg HC4.out, if_pos c5])
      clear c5
      go_wp2
      exact ⟨rfl, NumPost.no HN.out _ (HW5.out.trans hbz)⟩
    refine (must_yes b s ⟨#[112, 80]⟩ _ w5 HB5.out c5.1 (by omega) (mem2 _ _ _ c5.2)).mono ?_
    rintro e w6 ⟨rfl, hB6, hb6⟩
    have HB6 := Lib.hid hB6
    have HW6 := Lib.hid (HW5.out.trans hb6)
    have HC5 := Lib.hid c5
    clear c5 hB6 hb6
    go_wp2_with fail
    refine (sign_walk b s _ w6 HB6.out (by omega)).mono ?_
    rintro e w7 ⟨rfl, hB7, hb7⟩
    have HB7 := Lib.hid hB7
    have HW7 := Lib.hid (HW6.out.trans hb7)
    clear hB7 hb7
    go_wp2_with fail
    by_cases c6 : sgI s (dgE s (i + 2) + 1) < s.size ∧ isDec (by8 s (sgI s (dgE s (i + 2) + 1))) = true
    case neg =>
      refine (decimal_no b s _ w7 HB7.out (by omega) c6).mono ?_
      rintro e wz ⟨rfl, hbz⟩
      have HN := Lib.hid (show numOf s i = none by unfold numOf; rw [if_neg (fun h => h HC1.out), if_neg (fun h => h HC2.out), if_neg HC4.out, if_neg (fun h => h HC5.out), if_pos c6])
      clear c6
      go_wp2
      exact ⟨rfl, NumPost.no HN.out _ (HW7.out.trans hbz)⟩
    refine (decimal_yes b s _ w7 HB7.out (by omega) c6).mono ?_
    rintro e w8 ⟨rfl, hB8, hb8⟩
    have HB8 := Lib.hid hB8
    have HW8 := Lib.hid (HW7.out.trans hb8)
    have hdv := dv_le s (sgI s (dgE s (i + 2) + 1)) (dcE s (sgI s (dgE s (i + 2) + 1)) - sgI s (dgE s (i + 2) + 1))
    unfold far at hdv
    have HN := Lib.hid (show numOf s i = some (dgV s (i + 2), exV s (sgB s (dgE s (i + 2) + 1)) (sgI s (dgE s (i + 2) + 1)) - 4 * dgB s (i + 2), dcE s (sgI s (dgE s (i + 2) + 1))) by
      unfold numOf; rw [if_neg (fun h => h HC1.out), if_neg (fun h => h HC2.out), if_neg HC4.out, if_neg (fun h => h HC5.out), if_neg (fun h => h c6)])
    have hlm : ∀ w9 : World, Calls Tryz.prog 60 #[.string (d1 ++ d2)] w9 fun e w' => ∃ v, e = .returned v ∧ NatAt w' v (dgV s (i + 2)) ∧ Below w9.heap.size w9 w' := fun w9 => by
      rw [ED.out]; exact limbs_walk (dgD s (i + 2)) w9 (by have := HDG.out.1; omega) HH.out
    have HLM := Lib.hid hlm
    clear c6 hB8 hb8 hlm
    cases hsg : sgB s (dgE s (i + 2) + 1)
    all_goals
      have HSG := Lib.hid hsg
      clear hsg
      generalize hdq : dv s (sgI s (dgE s (i + 2) + 1)) (dcE s (sgI s (dgE s (i + 2) + 1)) - sgI s (dgE s (i + 2) + 1)) = q at *
      have HDQ := Lib.hid hdq
      clear hdq
      go_wp2_with fail
      refine (HLM.out _).mono ?_
      rintro e w9 ⟨v9, rfl, hn9, hb9⟩
      have HN9 := Lib.hid hn9
      obtain ⟨A9, c9, rfl, hc9, hr9⟩ := hn9
      clear hc9 hr9
      go_wp2
      go_ret2
      refine .inl ⟨_, _, _, .slice A9 (toL (dgV s (i + 2))).length c9, HN.out, ?_, HN9.out, HB8.out.below hb9, HW8.out.trans (hb9.mono (Nat.le_of_lt HB8.out.2.2.2.2))⟩
      refine congrArg (fun z : Int => Ending.returned (.tuple #[.slice A9 (toL (dgV s (i + 2))).length c9, .int .i64 z])) ?_
      unfold exV
      rw [HSG.out, HDQ.out, ← EB.out]
      first | rfl | (simp; done)
  · refine (take_no b s ⟨#[46]⟩ _ w3 HB3.out (by omega) (fun h => mem1_no _ _ fun e => c3 ⟨h, e⟩)).mono ?_
    rintro e w4 ⟨rfl, hB4, hb4⟩
    have ED := Lib.hid (show s.extract (i + 2) (hxE s (i + 2)) = dgD s (i + 2) by unfold dgD; rw [if_neg c3])
    have EB := Lib.hid (show 0 = dgB s (i + 2) by unfold dgB; rw [if_neg c3])
    have EE := Lib.hid (show hxE s (i + 2) = dgE s (i + 2) by unfold dgE; rw [if_neg c3])
    rw [EE.out] at hB4
    have HB4 := Lib.hid hB4
    have HW4 := Lib.hid (HW3.out.trans hb4)
    have hz1 : (s.extract (i + 2) (hxE s (i + 2))).size ≤ 4100 := by rw [size_ext _ _ _ h3]; omega
    clear c3 hB4 hb4
    generalize s.extract (i + 2) (hxE s (i + 2)) = d1 at *
    by_cases c4 : (dgD s (i + 2)).size = 0
    case pos =>
      have hE : (d1).toList.isEmpty = true := by rw [empty_iff, ED.out]; exact decide_eq_true c4
      have HN := Lib.hid (show numOf s i = none by unfold numOf; rw [if_neg (fun h => h HC1.out), if_neg (fun h => h HC2.out), if_pos c4])
      clear c4
      go_wp2_with fail
      refine (fail_walk b s _ w4 HB4.out).mono ?_
      rintro e wz ⟨rfl, rfl⟩
      go_wp2
      exact ⟨rfl, NumPost.no HN.out _ HW4.out⟩
    have hE : (d1).toList.isEmpty = false := by rw [empty_iff, ED.out]; exact decide_eq_false c4
    have HC4 := Lib.hid c4
    clear c4
    go_wp2_with fail
    by_cases c5 : dgE s (i + 2) < s.size ∧ (by8 s (dgE s (i + 2)) = 112 ∨ by8 s (dgE s (i + 2)) = 80)
    case neg =>
      refine (must_no b s ⟨#[112, 80]⟩ _ w4 HB4.out (by omega) (fun h => mem2_no _ _ _ fun e => c5 ⟨h, e⟩)).mono ?_
      rintro e wz ⟨rfl, hbz⟩
      have HN := Lib.hid (show numOf s i = none by unfold numOf; rw [if_neg (fun h => h HC1.out), if_neg (fun h => h HC2.out), if_neg HC4.out, if_pos c5])
      clear c5
      go_wp2
      exact ⟨rfl, NumPost.no HN.out _ (HW4.out.trans hbz)⟩
    refine (must_yes b s ⟨#[112, 80]⟩ _ w4 HB4.out c5.1 (by omega) (mem2 _ _ _ c5.2)).mono ?_
    rintro e w6 ⟨rfl, hB6, hb6⟩
    have HB6 := Lib.hid hB6
    have HW6 := Lib.hid (HW4.out.trans hb6)
    have HC5 := Lib.hid c5
    clear c5 hB6 hb6
    go_wp2_with fail
    refine (sign_walk b s _ w6 HB6.out (by omega)).mono ?_
    rintro e w7 ⟨rfl, hB7, hb7⟩
    have HB7 := Lib.hid hB7
    have HW7 := Lib.hid (HW6.out.trans hb7)
    clear hB7 hb7
    go_wp2_with fail
    by_cases c6 : sgI s (dgE s (i + 2) + 1) < s.size ∧ isDec (by8 s (sgI s (dgE s (i + 2) + 1))) = true
    case neg =>
      refine (decimal_no b s _ w7 HB7.out (by omega) c6).mono ?_
      rintro e wz ⟨rfl, hbz⟩
      have HN := Lib.hid (show numOf s i = none by unfold numOf; rw [if_neg (fun h => h HC1.out), if_neg (fun h => h HC2.out), if_neg HC4.out, if_neg (fun h => h HC5.out), if_pos c6])
      clear c6
      go_wp2
      exact ⟨rfl, NumPost.no HN.out _ (HW7.out.trans hbz)⟩
    refine (decimal_yes b s _ w7 HB7.out (by omega) c6).mono ?_
    rintro e w8 ⟨rfl, hB8, hb8⟩
    have HB8 := Lib.hid hB8
    have HW8 := Lib.hid (HW7.out.trans hb8)
    have hdv := dv_le s (sgI s (dgE s (i + 2) + 1)) (dcE s (sgI s (dgE s (i + 2) + 1)) - sgI s (dgE s (i + 2) + 1))
    unfold far at hdv
    have HN := Lib.hid (show numOf s i = some (dgV s (i + 2), exV s (sgB s (dgE s (i + 2) + 1)) (sgI s (dgE s (i + 2) + 1)) - 4 * dgB s (i + 2), dcE s (sgI s (dgE s (i + 2) + 1))) by
      unfold numOf; rw [if_neg (fun h => h HC1.out), if_neg (fun h => h HC2.out), if_neg HC4.out, if_neg (fun h => h HC5.out), if_neg (fun h => h c6)])
    have hlm : ∀ w9 : World, Calls Tryz.prog 60 #[.string (d1)] w9 fun e w' => ∃ v, e = .returned v ∧ NatAt w' v (dgV s (i + 2)) ∧ Below w9.heap.size w9 w' := fun w9 => by
      rw [ED.out]; exact limbs_walk (dgD s (i + 2)) w9 (by have := HDG.out.1; omega) HH.out
    have HLM := Lib.hid hlm
    clear c6 hB8 hb8 hlm
    cases hsg : sgB s (dgE s (i + 2) + 1)
    all_goals
      have HSG := Lib.hid hsg
      clear hsg
      generalize hdq : dv s (sgI s (dgE s (i + 2) + 1)) (dcE s (sgI s (dgE s (i + 2) + 1)) - sgI s (dgE s (i + 2) + 1)) = q at *
      have HDQ := Lib.hid hdq
      clear hdq
      go_wp2_with fail
      refine (HLM.out _).mono ?_
      rintro e w9 ⟨v9, rfl, hn9, hb9⟩
      have HN9 := Lib.hid hn9
      obtain ⟨A9, c9, rfl, hc9, hr9⟩ := hn9
      clear hc9 hr9
      go_wp2
      go_ret2
      refine .inl ⟨_, _, _, .slice A9 (toL (dgV s (i + 2))).length c9, HN.out, ?_, HN9.out, HB8.out.below hb9, HW8.out.trans (hb9.mono (Nat.le_of_lt HB8.out.2.2.2.2))⟩
      refine congrArg (fun z : Int => Ending.returned (.tuple #[.slice A9 (toL (dgV s (i + 2))).length c9, .int .i64 z])) ?_
      unfold exV
      rw [HSG.out, HDQ.out, ← EB.out]
      first | rfl | (simp; done)
end Go.Proofs.YtooehlneoboenaaGreatDoor
