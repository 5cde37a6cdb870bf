/- Walks of hexfloat's reader: number. · The walk of hexfloat's reader: number. · Walks of binary: shapeOf, Quiet; of hexfloat's reader: read; for both formats (printed by gen_read.py). -/
import Derived.Test.YtibjogbalmbeeaaGreatDoorY33
import Derived.Test.YtibjogbalmbeeaaGreatDoorY16

namespace Go.Proofs.YtibjogbalmbeeaaGreatDoor
open Go.RowKit

/-- The digits from j on, those on both sides of a point; how many stand behind the point; where they end. -/
def hgD (s : ByteArray) (j : Nat) : ByteArray := if hxE s j < s.size ∧ by8 s (hxE s j) = 46 then s.extract j (hxE s j) ++ s.extract (hxE s j + 1) (hxE s (hxE s j + 1)) else s.extract j (hxE s j)
def dgB (s : ByteArray) (j : Nat) : Nat := if hxE s j < s.size ∧ by8 s (hxE s j) = 46 then (s.extract (hxE s j + 1) (hxE s (hxE s j + 1))).size else 0
def dgE (s : ByteArray) (j : Nat) : Nat := if hxE s j < s.size ∧ by8 s (hxE s j) = 46 then hxE s (hxE s j + 1) else hxE s j
/-- The number of these digits. -/
def hgV (s : ByteArray) (j : Nat) : Nat := hv (by8 (hgD s j)) (hgD s j).size (hgD s j).size
/-- The exponent from q on, the sign told. -/
def hgX (s : ByteArray) (neg : Bool) (q : Nat) : Int := if neg then -((dv s q (dcE s q - q) : Nat) : Int) else ((dv s q (dcE s q - q) : Nat) : Int)
/-- The number that stands from i on: mantissa, exponent, where it ends. -/
def numOf (s : ByteArray) (i : Nat) : Option (Nat × Int × Nat) :=
  if ¬ (i < s.size ∧ by8 s i = 48) then none else
  if ¬ (i + 1 < s.size ∧ (by8 s (i + 1) = 120 ∨ by8 s (i + 1) = 88)) then none else
  if (hgD s (i + 2)).size = 0 then none else
  if ¬ (dgE s (i + 2) < s.size ∧ (by8 s (dgE s (i + 2)) = 112 ∨ by8 s (dgE s (i + 2)) = 80)) then none else
  if ¬ (sgI s (dgE s (i + 2) + 1) < s.size ∧ isDec (by8 s (sgI s (dgE s (i + 2) + 1))) = true) then none else
  some (hgV s (i + 2), hgX s (sgB s (dgE s (i + 2) + 1)) (sgI s (dgE s (i + 2) + 1)) - 4 * dgB s (i + 2), dcE s (sgI s (dgE s (i + 2) + 1)))
/-- What number comes to. -/
def NumPost (b : Nat) (s : ByteArray) (i : Nat) (w : World) (e : Ending) (w' : World) : Prop :=
  (∃ a x k v, numOf s i = some (a, x, k) ∧ e = .returned (.tuple #[v, .int .i64 x]) ∧ NatAt w' v a ∧ Box2 w' b (.string s) (.int .i64 ((k : Nat) : Int)) ∧ Below b w w') ∨
  (numOf s i = none ∧ (∃ j, e = .panicked [faultAt j]) ∧ Below b w w')
theorem NumPost.no {b : Nat} {s : ByteArray} {i : Nat} {w w' : World} (h : numOf s i = none) (j : Int) (hb : Below b w w') : NumPost b s i w (.panicked [faultAt j]) w' := .inr ⟨h, ⟨j, rfl⟩, hb⟩
theorem dg_hex (s : ByteArray) (j : Nat) (hj : j ≤ s.size) : ∀ k, k < (hgD s j).size → isHex (by8 (hgD s j) k) = true := by
  have h1 := runTo_le isHex s s.size j hj
  have h2 := runTo_ge isHex s s.size j
  intro k hk
  unfold hgD at hk ⊢
  change hxE s j ≤ s.size at h1
  change j ≤ hxE s j at h2
  split at hk
  · rename_i h
    have h3 : hxE s (hxE s j + 1) ≤ s.size := runTo_le isHex s s.size _ h.1
    rw [if_pos h]
    rw [ByteArray.size_append, size_ext _ _ _ h1, size_ext _ _ _ h3] at hk
    rw [by8_append, size_ext _ _ _ h1]
    split
    · rw [by8_extract _ _ _ _ h1 (by omega)]; exact hx_all _ j _ (by omega) (by omega)
    · rw [by8_extract _ _ _ _ h3 (by omega)]; exact hx_all _ (hxE s j + 1) _ (by omega) (by omega)
  · rename_i h
    rw [if_neg h]
    rw [size_ext _ _ _ h1] at hk
    rw [by8_extract _ _ _ _ h1 hk]; exact hx_all _ j _ (by omega) (by omega)
theorem dg_size (s : ByteArray) (j : Nat) (hj : j ≤ s.size) : (hgD s j).size ≤ s.size ∧ dgB s j ≤ s.size ∧ dgE s j ≤ s.size := by
  have h1 : hxE s j ≤ s.size := runTo_le isHex s s.size j hj
  have h2 : j ≤ hxE s j := runTo_ge isHex s s.size j
  unfold hgD dgB dgE
  split
  · rename_i h
    have h3 : hxE s (hxE s j + 1) ≤ s.size := runTo_le isHex s s.size _ h.1
    have h4 : hxE s j + 1 ≤ hxE s (hxE s j + 1) := runTo_ge isHex s s.size _
    rw [ByteArray.size_append, size_ext _ _ _ h1, size_ext _ _ _ h3]
    omega
  · rw [size_ext _ _ _ h1]; omega
end Go.Proofs.YtibjogbalmbeeaaGreatDoor

namespace Go.Proofs.YtibjogbalmbeeaaGreatDoor
open Go.RowKit

set_option maxRecDepth 100000 in
set_option maxHeartbeats 2000000 in
theorem number_walk (b : Nat) (s : ByteArray) (i : Nat) (w : World) (hB : Box2 w b (.string s) (.int .i64 (i : Int))) (hs : s.size ≤ 4100) :
    Calls Tryz.prog 241 #[.pointer (some ⟨b, 0, none⟩)] w (NumPost b s i w) := by
  have HB := Lib.hid hB
  clear hB
  go_enter Tryz.func241, Tryz.ntmps241
  go_wp2_with fail
  by_cases c1 : i < s.size ∧ by8 s i = 48
  case neg =>
    refine (must_no b s ⟨#[48]⟩ i w HB.out (by omega) (fun h => mem1_no _ _ fun e => c1 ⟨h, e⟩)).mono ?_
    rintro e w1 ⟨rfl, hb1⟩
    have HN := Lib.hid (show numOf s i = none by unfold numOf; rw [if_pos c1])
    clear c1
    go_wp2
    exact ⟨rfl, NumPost.no HN.out _ hb1⟩
  refine (must_yes b s ⟨#[48]⟩ i w HB.out c1.1 (by omega) (mem1 _ _ c1.2)).mono ?_
  rintro e w1 ⟨rfl, hB1, hb1⟩
  have HB1 := Lib.hid hB1
  have HC1 := Lib.hid c1
  clear c1 hB1
  go_wp2_with fail
  by_cases c2 : i + 1 < s.size ∧ (by8 s (i + 1) = 120 ∨ by8 s (i + 1) = 88)
  case neg =>
    refine (must_no b s ⟨#[120, 88]⟩ (i + 1) w1 HB1.out (by omega) (fun h => mem2_no _ _ _ fun e => c2 ⟨h, e⟩)).mono ?_
    rintro e w2 ⟨rfl, hb2⟩
    have HN := Lib.hid (show numOf s i = none by unfold numOf; rw [if_neg (fun h => h HC1.out), if_pos c2])
    clear c2
    go_wp2
    exact ⟨rfl, NumPost.no HN.out _ (hb1.trans hb2)⟩
  refine (must_yes b s ⟨#[120, 88]⟩ (i + 1) w1 HB1.out c2.1 (by omega) (mem2 _ _ _ c2.2)).mono ?_
  rintro e w2 ⟨rfl, hB2, hb2⟩
  have HB2 := Lib.hid hB2
  have HC2 := Lib.hid c2
  have hj2 : i + 2 ≤ s.size := by have := c2.1; omega
  have HW2 := Lib.hid (hb1.trans hb2)
  have HDG := Lib.hid (dg_size s (i + 2) hj2)
  have HH := Lib.hid (dg_hex s (i + 2) hj2)
  clear c2 hB2 hb1 hb2
  go_wp2_with fail
  refine (hex_walk b s (i + 2) w2 HB2.out hj2 (by omega)).mono ?_
  rintro e w3 ⟨rfl, hB3, hb3⟩
  have HB3 := Lib.hid hB3
  have HW3 := Lib.hid (HW2.out.trans hb3)
  have h3 : hxE s (i + 2) ≤ s.size := runTo_le isHex s s.size _ hj2
  clear hB3 hb3
  go_wp2_with fail
  by_cases c3 : hxE s (i + 2) < s.size ∧ by8 s (hxE s (i + 2)) = 46
  · refine (take_yes b s ⟨#[46]⟩ _ w3 HB3.out c3.1 (by omega) (mem1 _ _ c3.2)).mono ?_
    rintro e w4 ⟨rfl, hB4, hb4⟩
    have HB4 := Lib.hid hB4
    have HW4 := Lib.hid (HW3.out.trans hb4)
    have h5 : hxE s (hxE s (i + 2) + 1) ≤ s.size := runTo_le isHex s s.size _ c3.1
    have hc3l := c3.1
    have ED := Lib.hid (show s.extract (i + 2) (hxE s (i + 2)) ++ s.extract (hxE s (i + 2) + 1) (hxE s (hxE s (i + 2) + 1)) = hgD s (i + 2) by unfold hgD; rw [if_pos c3])
    have EB := Lib.hid (show (s.extract (hxE s (i + 2) + 1) (hxE s (hxE s (i + 2) + 1))).size = dgB s (i + 2) by unfold dgB; rw [if_pos c3])
    have EE := Lib.hid (show hxE s (hxE s (i + 2) + 1) = dgE s (i + 2) by unfold dgE; rw [if_pos c3])
    have hz1 : (s.extract (i + 2) (hxE s (i + 2))).size ≤ 4100 := by rw [size_ext _ _ _ h3]; omega
    have hz2 : (s.extract (hxE s (i + 2) + 1) (hxE s (hxE s (i + 2) + 1))).size ≤ 4100 := by rw [size_ext _ _ _ h5]; omega
    clear c3 hB4 hb4
    go_wp2_with fail
    refine (hex_walk b s (hxE s (i + 2) + 1) w4 HB4.out (by omega) (by omega)).mono ?_
    rintro e w5 ⟨rfl, hB5, hb5⟩
    rw [EE.out] at hB5
    have HB5 := Lib.hid hB5
    have HW5 := Lib.hid (HW4.out.trans hb5)
    clear hB5 hb5
    generalize s.extract (i + 2) (hxE s (i + 2)) = d1 at *
    generalize s.extract (hxE s (i + 2) + 1) (hxE s (hxE s (i + 2) + 1)) = d2 at *
    by_cases c4 : (hgD s (i + 2)).size = 0
    case pos =>
      have hE : (d1 ++ d2).toList.isEmpty = true := by rw [empty_iff, ED.out]; exact decide_eq_true c4
      have HN := Lib.hid (show numOf s i = none by unfold numOf; rw [if_neg (fun h => h HC1.out), if_neg (fun h => h HC2.out), if_pos c4])
      clear c4
      go_wp2_with fail
      refine (fail_walk b s _ w5 HB5.out).mono ?_
      rintro e wz ⟨rfl, rfl⟩
      go_wp2
      exact ⟨rfl, NumPost.no HN.out _ HW5.out⟩
    have hE : (d1 ++ d2).toList.isEmpty = false := by rw [empty_iff, ED.out]; exact decide_eq_false c4
    have HC4 := Lib.hid c4
    clear c4
    go_wp2_with fail
    by_cases c5 : dgE s (i + 2) < s.size ∧ (by8 s (dgE s (i + 2)) = 112 ∨ by8 s (dgE s (i + 2)) = 80)
    case neg =>
      refine (must_no b s ⟨#[112, 80]⟩ _ w5 HB5.out (by omega) (fun h => mem2_no _ _ _ fun e => c5 ⟨h, e⟩)).mono ?_
      rintro e wz ⟨rfl, hbz⟩
      have HN := Lib.hid (show numOf s i = none by unfold numOf; rw [if_neg (fun h => h HC1.out), if_neg (fun h => h HC2.out), if_neg HC4.out, if_pos c5])
      clear c5
      go_wp2
      exact ⟨rfl, NumPost.no HN.out _ (HW5.out.trans hbz)⟩
    refine (must_yes b s ⟨#[112, 80]⟩ _ w5 HB5.out c5.1 (by omega) (mem2 _ _ _ c5.2)).mono ?_
    rintro e w6 ⟨rfl, hB6, hb6⟩
    have HB6 := Lib.hid hB6
    have HW6 := Lib.hid (HW5.out.trans hb6)
    have HC5 := Lib.hid c5
    clear c5 hB6 hb6
    go_wp2_with fail
    refine (sign_walk b s _ w6 HB6.out (by omega)).mono ?_
    rintro e w7 ⟨rfl, hB7, hb7⟩
    have HB7 := Lib.hid hB7
    have HW7 := Lib.hid (HW6.out.trans hb7)
    clear hB7 hb7
    go_wp2_with fail
    by_cases c6 : sgI s (dgE s (i + 2) + 1) < s.size ∧ isDec (by8 s (sgI s (dgE s (i + 2) + 1))) = true
    case neg =>
      refine (decimal_no b s _ w7 HB7.out (by omega) c6).mono ?_
      rintro e wz ⟨rfl, hbz⟩
      have HN := Lib.hid (show numOf s i = none by unfold numOf; rw [if_neg (fun h => h HC1.out), if_neg (fun h => h HC2.out), if_neg HC4.out, if_neg (fun h => h HC5.out), if_pos c6])
      clear c6
      go_wp2
      exact ⟨rfl, NumPost.no HN.out _ (HW7.out.trans hbz)⟩
    refine (decimal_yes b s _ w7 HB7.out (by omega) c6).mono ?_
    rintro e w8 ⟨rfl, hB8, hb8⟩
    have HB8 := Lib.hid hB8
    have HW8 := Lib.hid (HW7.out.trans hb8)
    have hdv := dv_le s (sgI s (dgE s (i + 2) + 1)) (dcE s (sgI s (dgE s (i + 2) + 1)) - sgI s (dgE s (i + 2) + 1))
    unfold far at hdv
    have HN := Lib.hid (show numOf s i = some (hgV s (i + 2), hgX s (sgB s (dgE s (i + 2) + 1)) (sgI s (dgE s (i + 2) + 1)) - 4 * dgB s (i + 2), dcE s (sgI s (dgE s (i + 2) + 1))) by
      unfold numOf; rw [if_neg (fun h => h HC1.out), if_neg (fun h => h HC2.out), if_neg HC4.out, if_neg (fun h => h HC5.out), if_neg (fun h => h c6)])
    have hlm : ∀ w9 : World, Calls Tryz.prog 260 #[.string (d1 ++ d2)] w9 fun e w' => ∃ v, e = .returned v ∧ NatAt w' v (hgV s (i + 2)) ∧ Below w9.heap.size w9 w' := fun w9 => by
      rw [ED.out]; exact limbs_walk (hgD s (i + 2)) w9 (by have := HDG.out.1; omega) HH.out
    have HLM := Lib.hid hlm
    clear c6 hB8 hb8 hlm
    cases hsg : sgB s (dgE s (i + 2) + 1)
    all_goals
      have HSG := Lib.hid hsg
      clear hsg
      generalize hdq : dv s (sgI s (dgE s (i + 2) + 1)) (dcE s (sgI s (dgE s (i + 2) + 1)) - sgI s (dgE s (i + 2) + 1)) = q at *
      have HDQ := Lib.hid hdq
      clear hdq
      go_wp2_with fail
      refine (HLM.out _).mono ?_
      rintro e w9 ⟨v9, rfl, hn9, hb9⟩
      have HN9 := Lib.hid hn9
      obtain ⟨A9, c9, rfl, hc9, hr9⟩ := hn9
      clear hc9 hr9
      go_wp2
      go_ret2
      refine .inl ⟨_, _, _, .slice A9 (toL (hgV s (i + 2))).length c9, HN.out, ?_, HN9.out, HB8.out.below hb9, HW8.out.trans (hb9.mono (Nat.le_of_lt HB8.out.2.2.2.2))⟩
      refine congrArg (fun z : Int => Ending.returned (.tuple #[.slice A9 (toL (hgV s (i + 2))).length c9, .int .i64 z])) ?_
      unfold hgX
      rw [HSG.out, HDQ.out, ← EB.out]
      first | rfl | (simp; done)
  · refine (take_no b s ⟨#[46]⟩ _ w3 HB3.out (by omega) (fun h => mem1_no _ _ fun e => c3 ⟨h, e⟩)).mono ?_
    rintro e w4 ⟨rfl, hB4, hb4⟩
    have ED := Lib.hid (show s.extract (i + 2) (hxE s (i + 2)) = hgD s (i + 2) by unfold hgD; rw [if_neg c3])
    have EB := Lib.hid (show 0 = dgB s (i + 2) by unfold dgB; rw [if_neg c3])
    have EE := Lib.hid (show hxE s (i + 2) = dgE s (i + 2) by unfold dgE; rw [if_neg c3])
    rw [EE.out] at hB4
    have HB4 := Lib.hid hB4
    have HW4 := Lib.hid (HW3.out.trans hb4)
    have hz1 : (s.extract (i + 2) (hxE s (i + 2))).size ≤ 4100 := by rw [size_ext _ _ _ h3]; omega
    clear c3 hB4 hb4
    generalize s.extract (i + 2) (hxE s (i + 2)) = d1 at *
    by_cases c4 : (hgD s (i + 2)).size = 0
    case pos =>
      have hE : (d1).toList.isEmpty = true := by rw [empty_iff, ED.out]; exact decide_eq_true c4
      have HN := Lib.hid (show numOf s i = none by unfold numOf; rw [if_neg (fun h => h HC1.out), if_neg (fun h => h HC2.out), if_pos c4])
      clear c4
      go_wp2_with fail
      refine (fail_walk b s _ w4 HB4.out).mono ?_
      rintro e wz ⟨rfl, rfl⟩
      go_wp2
      exact ⟨rfl, NumPost.no HN.out _ HW4.out⟩
    have hE : (d1).toList.isEmpty = false := by rw [empty_iff, ED.out]; exact decide_eq_false c4
    have HC4 := Lib.hid c4
    clear c4
    go_wp2_with fail
    by_cases c5 : dgE s (i + 2) < s.size ∧ (by8 s (dgE s (i + 2)) = 112 ∨ by8 s (dgE s (i + 2)) = 80)
    case neg =>
      refine (must_no b s ⟨#[112, 80]⟩ _ w4 HB4.out (by omega) (fun h => mem2_no _ _ _ fun e => c5 ⟨h, e⟩)).mono ?_
      rintro e wz ⟨rfl, hbz⟩
      have HN := Lib.hid (show numOf s i = none by unfold numOf; rw [if_neg (fun h => h HC1.out), if_neg (fun h => h HC2.out), if_neg HC4.out, if_pos c5])
      clear c5
      go_wp2
      exact ⟨rfl, NumPost.no HN.out _ (HW4.out.trans hbz)⟩
    refine (must_yes b s ⟨#[112, 80]⟩ _ w4 HB4.out c5.1 (by omega) (mem2 _ _ _ c5.2)).mono ?_
    rintro e w6 ⟨rfl, hB6, hb6⟩
    have HB6 := Lib.hid hB6
    have HW6 := Lib.hid (HW4.out.trans hb6)
    have HC5 := Lib.hid c5
    clear c5 hB6 hb6
    go_wp2_with fail
    refine (sign_walk b s _ w6 HB6.out (by omega)).mono ?_
    rintro e w7 ⟨rfl, hB7, hb7⟩
    have HB7 := Lib.hid hB7
    have HW7 := Lib.hid (HW6.out.trans hb7)
    clear hB7 hb7
    go_wp2_with fail
    by_cases c6 : sgI s (dgE s (i + 2) + 1) < s.size ∧ isDec (by8 s (sgI s (dgE s (i + 2) + 1))) = true
    case neg =>
      refine (decimal_no b s _ w7 HB7.out (by omega) c6).mono ?_
      rintro e wz ⟨rfl, hbz⟩
      have HN := Lib.hid (show numOf s i = none by unfold numOf; rw [if_neg (fun h => h HC1.out), if_neg (fun h => h HC2.out), if_neg HC4.out, if_neg (fun h => h HC5.out), if_pos c6])
      clear c6
      go_wp2
      exact ⟨rfl, NumPost.no HN.out _ (HW7.out.trans hbz)⟩
    refine (decimal_yes b s _ w7 HB7.out (by omega) c6).mono ?_
    rintro e w8 ⟨rfl, hB8, hb8⟩
    have HB8 := Lib.hid hB8
    have HW8 := Lib.hid (HW7.out.trans hb8)
    have hdv := dv_le s (sgI s (dgE s (i + 2) + 1)) (dcE s (sgI s (dgE s (i + 2) + 1)) - sgI s (dgE s (i + 2) + 1))
    unfold far at hdv
    have HN := Lib.hid (show numOf s i = some (hgV s (i + 2), hgX s (sgB s (dgE s (i + 2) + 1)) (sgI s (dgE s (i + 2) + 1)) - 4 * dgB s (i + 2), dcE s (sgI s (dgE s (i + 2) + 1))) by
      unfold numOf; rw [if_neg (fun h => h HC1.out), if_neg (fun h => h HC2.out), if_neg HC4.out, if_neg (fun h => h HC5.out), if_neg (fun h => h c6)])
    have hlm : ∀ w9 : World, Calls Tryz.prog 260 #[.string (d1)] w9 fun e w' => ∃ v, e = .returned v ∧ NatAt w' v (hgV s (i + 2)) ∧ Below w9.heap.size w9 w' := fun w9 => by
      rw [ED.out]; exact limbs_walk (hgD s (i + 2)) w9 (by have := HDG.out.1; omega) HH.out
    have HLM := Lib.hid hlm
    clear c6 hB8 hb8 hlm
    cases hsg : sgB s (dgE s (i + 2) + 1)
    all_goals
      have HSG := Lib.hid hsg
      clear hsg
      generalize hdq : dv s (sgI s (dgE s (i + 2) + 1)) (dcE s (sgI s (dgE s (i + 2) + 1)) - sgI s (dgE s (i + 2) + 1)) = q at *
      have HDQ := Lib.hid hdq
      clear hdq
      go_wp2_with fail
      refine (HLM.out _).mono ?_
      rintro e w9 ⟨v9, rfl, hn9, hb9⟩
      have HN9 := Lib.hid hn9
      obtain ⟨A9, c9, rfl, hc9, hr9⟩ := hn9
      clear hc9 hr9
      go_wp2
      go_ret2
      refine .inl ⟨_, _, _, .slice A9 (toL (hgV s (i + 2))).length c9, HN.out, ?_, HN9.out, HB8.out.below hb9, HW8.out.trans (hb9.mono (Nat.le_of_lt HB8.out.2.2.2.2))⟩
      refine congrArg (fun z : Int => Ending.returned (.tuple #[.slice A9 (toL (hgV s (i + 2))).length c9, .int .i64 z])) ?_
      unfold hgX
      rw [HSG.out, HDQ.out, ← EB.out]
      first | rfl | (simp; done)
end Go.Proofs.YtibjogbalmbeeaaGreatDoor

namespace Go.Proofs.YtibjogbalmbeeaaGreatDoor
open Go.RowKit

/-- What a text means: its pattern, or none. -/
def parseOf (f : Fm) (s : ByteArray) : Option Nat :=
  if s.toList == [110, 97, 110] then some f.quiet else
  if (s.extract (sgI s 0) s.size).toList == [105, 110, 102] then some (sgn f (sgB s 0) f.inf) else
  match numOf s (sgI s 0) with
  | none => none
  | some (a, x, k) => if k < s.size then none else some (sgn f (sgB s 0) (hxPat f a x))
/-- What read comes to. -/
def ReadPost (f : Fm) (b : Nat) (s : ByteArray) (w : World) (e : Ending) (w' : World) : Prop :=
  (∃ p : Nat, parseOf f s = some p ∧ e = .returned (.tuple #[.int .u64 (p : Int), .int .i64 0]) ∧ Below b w w') ∨
  (parseOf f s = none ∧ (∃ j, e = .panicked [faultAt j]) ∧ Below b w w')

set_option maxRecDepth 100000 in
theorem numOf_bounds {s : ByteArray} {i a k : Nat} {x : Int} (hs : s.size ≤ 4100) (h : numOf s i = some (a, x, k)) : blen a ≤ 20000 ∧ -4000000000000 ≤ x ∧ x ≤ 4000000000000 ∧ k ≤ s.size := by
  unfold numOf at h
  split at h
  · cases h
  split at h
  · cases h
  split at h
  · cases h
  split at h
  · cases h
  split at h
  · cases h
  rename_i h1 h2 h3 h4 h5
  injection h with h
  injection h with ha h
  injection h with hx hk
  have hj : i + 2 ≤ s.size := by
    have : i + 1 < s.size := Classical.byContradiction fun e => h2 (fun g => e g.1)
    omega
  have hsz := dg_size s (i + 2) hj
  have hq : sgI s (dgE s (i + 2) + 1) < s.size := Classical.byContradiction fun e => h5 (fun g => e g.1)
  refine ⟨?_, ?_, ?_, ?_⟩
  · rw [← ha]
    have hlt := hv_lt (by8 (hgD s (i + 2))) (hgD s (i + 2)).size (hgD s (i + 2)).size fun j hj2 => hexV_lt _ (dg_hex s (i + 2) hj _ (by omega))
    have h6 : blen (hgV s (i + 2)) ≤ 4 * (hgD s (i + 2)).size := blen_le.2 (by rw [Nat.pow_mul]; exact hlt)
    omega
  · have := dv_le s (sgI s (dgE s (i + 2) + 1)) (dcE s (sgI s (dgE s (i + 2) + 1)) - sgI s (dgE s (i + 2) + 1))
    unfold far at this
    rw [← hx]; unfold hgX; split <;> omega
  · have := dv_le s (sgI s (dgE s (i + 2) + 1)) (dcE s (sgI s (dgE s (i + 2) + 1)) - sgI s (dgE s (i + 2) + 1))
    unfold far at this
    rw [← hx]; unfold hgX; split <;> omega
  · rw [← hk]; exact runTo_le _ _ _ _ (by omega)

set_option maxRecDepth 100000 in
set_option maxHeartbeats 2000000 in
theorem read_walk_S (b : Nat) (s : ByteArray) (w : World) (hB : Box2 w b (.string s) (.int .i64 0)) (hs : s.size ≤ 4100) (ht : Tab64 w) (hbt : 5 < b) :
    Calls Tryz.prog 224 #[.pointer (some ⟨b, 0, none⟩), .int .i64 32] w (ReadPost fmS b s w) := by
  have HB := Lib.hid hB
  have HT := Lib.hid ht
  obtain ⟨b0, b1, b2, b3, b4⟩ := hB
  clear ht
  cases hnan : (s.toList == [110, 97, 110])
  case true =>
    have HP := Lib.hid (show parseOf fmS s = some fmS.quiet by unfold parseOf; rw [hnan]; rfl)
    go_enter Tryz.func224, Tryz.ntmps224
    go_wp2_with fail
    refine (quiet_S w).mono ?_
    rintro e w1 ⟨rfl, hb1⟩
    go_wp2
    go_ret2
    exact .inl ⟨_, HP.out, rfl, hb1.mono (Nat.le_of_lt HB.out.2.2.2.2)⟩
  have HNAN := Lib.hid hnan
  go_enter Tryz.func224, Tryz.ntmps224
  go_wp2_with fail
  clear b0 b1 b2 b3 b4
  refine (sign_walk b s 0 w HB.out (by omega)).mono ?_
  rintro e w1 ⟨rfl, hB1, hb1⟩
  have HB1 := Lib.hid hB1
  have HW1 := Lib.hid hb1
  have hi := sgI_le s 0 (Nat.zero_le _)
  clear hB1 hb1
  obtain ⟨b0, b1, b2, b3, b4⟩ := HB1.out
  go_wp2_with fail
  have r2 : ((sgI s 0 : Nat) : Int) ≤ (s.size : Int) := by omega
  have r3 : 0 ≤ ((sgI s 0 : Nat) : Int) := by omega
  go_quiet (fail)
  cases hinf : ((s.extract (sgI s 0) s.size).toList == [105, 110, 102])
  case true =>
    have HP := Lib.hid (show parseOf fmS s = some (sgn fmS (sgB s 0) fmS.inf) by unfold parseOf; rw [HNAN.out, hinf]; rfl)
    have HOR := Lib.hid (or_high 31 fmS.inf (by omega) (inf_lt fmS (.inl rfl)))
    go_wp2_with fail
    refine (word_walk 1 _ (by rw [W64_num]; omega)).mono ?_
    rintro e w2 ⟨v2, rfl, hn2, hb2⟩
    have hw2 : Below b w w2 := (below_dn HW1.out _).trans (hb2.mono (Nat.le_of_lt HB1.out.2.2.2.2))
    have hT2 := HT.out.low hw2 hbt
    have HN2 := Lib.hid hn2
    have HW2 := Lib.hid hw2
    have HB2 := Lib.hid (HB1.out.below ((below_dn (Below.refl _ _) _).trans hb2))
    have HT2 := Lib.hid hT2
    obtain ⟨A2, c2, rfl, hc2, hr2⟩ := hn2
    clear hc2 hr2 hw2 hT2
    go_wp2_with fail
    refine (pattern_walk_S _ 1 3000 w2 HN2.out HT2.out (by decide) (by omega) (by omega)).mono ?_
    rintro e w3 ⟨rfl, hb3⟩
    rw [near_big]
    have HW3 := Lib.hid (HW2.out.trans (hb3.mono (Nat.le_of_lt HB2.out.2.2.2.2)))
    cases hsg : sgB s 0
    · rw [hsg, sgn_false] at HP
      go_wp2
      go_ret2
      exact .inl ⟨_, HP.out, rfl, HW3.out⟩
    · rw [hsg] at HP
      go_wp2
      go_ret2
      refine .inl ⟨_, HP.out, ?_, HW3.out⟩
      refine congrArg (fun z : Int => Ending.returned (.tuple #[.int .u64 z, .int .i64 0])) ?_
      exact HOR.out
  have HINF := Lib.hid hinf
  clear b0 b1 b2 b3 b4 r2 r3
  have HB1d := HB1.out.below (below_dn (Below.refl _ w1) nq)
  have HW1d := Lib.hid (below_dn HW1.out nq)
  generalize w1.drewN nq = w1d at *
  go_wp2_with fail
  refine (number_walk b s (sgI s 0) w1d HB1d hs).mono ?_
  rintro e w2 hpost
  rcases hpost with ⟨a, x, k, v, hno, rfl, hn2, hB2, hb2⟩ | ⟨hno, ⟨j, rfl⟩, hb2⟩
  case inr =>
    have HP := Lib.hid (show parseOf fmS s = none by unfold parseOf; rw [HNAN.out, HINF.out, hno]; rfl)
    have HW2 := Lib.hid (HW1d.out.trans hb2)
    clear hno hb2
    go_wp2
    exact ⟨rfl, .inr ⟨HP.out, ⟨j, rfl⟩, HW2.out⟩⟩
  obtain ⟨hbl, hx1, hx2, hks⟩ := numOf_bounds hs hno
  have HNO := Lib.hid hno
  have HN2 := Lib.hid hn2
  have HB2 := Lib.hid hB2
  have HW2 := Lib.hid (HW1d.out.trans hb2)
  have HB1d := Lib.hid HB1d
  obtain ⟨A2, c2, rfl, hc2, hr2⟩ := hn2
  clear hc2 hr2 hno hb2 hB2
  obtain ⟨b0, b1, b2, b3, b4⟩ := HB2.out
  go_wp2_with fail
  by_cases hk : k < s.size
  · have hk2 : decide ((k : Int) < (s.size : Int)) = true := decide_eq_true (by omega)
    have HP := Lib.hid (show parseOf fmS s = none by unfold parseOf; rw [HNAN.out, HINF.out, HNO.out]; exact if_pos hk)
    go_quiet (fail)
    go_wp2_with fail
    refine (fail_walk b s k _ (HB2.out.below (below_dn (Below.refl _ _) _))).mono ?_
    rintro e w3 ⟨rfl, rfl⟩
    go_wp2
    exact ⟨rfl, .inr ⟨HP.out, ⟨_, rfl⟩, below_dn HW2.out _⟩⟩
  · have hk2 : decide ((k : Int) < (s.size : Int)) = false := decide_eq_false (by omega)
    have hk3 : ¬ (k : Int) < (s.size : Int) := by omega
    have HP := Lib.hid (show parseOf fmS s = some (sgn fmS (sgB s 0) (hxPat fmS a x)) by unfold parseOf; rw [HNAN.out, HINF.out, HNO.out]; exact if_neg hk)
    have HOR := Lib.hid (or_high 31 (hxPat fmS a x) (by omega) (Nat.lt_of_le_of_lt (hxPat_le _ _ _) (inf_lt fmS (.inl rfl))))
    have HT2 := Lib.hid (HT.out.low HW2.out hbt)
    go_quiet (fail)
    go_wp2_with fail
    refine (pattern_walk_S _ a x _ (HN2.out.below (below_dn (Below.refl _ _) _)) (HT2.out.below (below_dn (Below.refl _ _) _)) (by omega) (by omega) (by omega)).mono ?_
    rintro e w3 ⟨rfl, hb3⟩
    have HW3 := Lib.hid ((below_dn HW2.out _).trans (hb3.mono (Nat.le_of_lt HB2.out.2.2.2.2)))
    clear b0 b1 b2 b3 b4
    cases hsg : sgB s 0
    · rw [hsg, sgn_false] at HP
      go_wp2
      go_ret2
      exact .inl ⟨_, HP.out, rfl, HW3.out⟩
    · rw [hsg] at HP
      go_wp2
      go_ret2
      refine .inl ⟨_, HP.out, ?_, HW3.out⟩
      refine congrArg (fun z : Int => Ending.returned (.tuple #[.int .u64 z, .int .i64 0])) ?_
      exact HOR.out

set_option maxRecDepth 100000 in
set_option maxHeartbeats 2000000 in
theorem read_walk_D (b : Nat) (s : ByteArray) (w : World) (hB : Box2 w b (.string s) (.int .i64 0)) (hs : s.size ≤ 4100) (ht : Tab64 w) (hbt : 5 < b) :
    Calls Tryz.prog 224 #[.pointer (some ⟨b, 0, none⟩), .int .i64 64] w (ReadPost fmD b s w) := by
  have HB := Lib.hid hB
  have HT := Lib.hid ht
  obtain ⟨b0, b1, b2, b3, b4⟩ := hB
  clear ht
  cases hnan : (s.toList == [110, 97, 110])
  case true =>
    have HP := Lib.hid (show parseOf fmD s = some fmD.quiet by unfold parseOf; rw [hnan]; rfl)
    go_enter Tryz.func224, Tryz.ntmps224
    go_wp2_with fail
    refine (quiet_D w).mono ?_
    rintro e w1 ⟨rfl, hb1⟩
    go_wp2
    go_ret2
    exact .inl ⟨_, HP.out, rfl, hb1.mono (Nat.le_of_lt HB.out.2.2.2.2)⟩
  have HNAN := Lib.hid hnan
  go_enter Tryz.func224, Tryz.ntmps224
  go_wp2_with fail
  clear b0 b1 b2 b3 b4
  refine (sign_walk b s 0 w HB.out (by omega)).mono ?_
  rintro e w1 ⟨rfl, hB1, hb1⟩
  have HB1 := Lib.hid hB1
  have HW1 := Lib.hid hb1
  have hi := sgI_le s 0 (Nat.zero_le _)
  clear hB1 hb1
  obtain ⟨b0, b1, b2, b3, b4⟩ := HB1.out
  go_wp2_with fail
  have r2 : ((sgI s 0 : Nat) : Int) ≤ (s.size : Int) := by omega
  have r3 : 0 ≤ ((sgI s 0 : Nat) : Int) := by omega
  go_quiet (fail)
  cases hinf : ((s.extract (sgI s 0) s.size).toList == [105, 110, 102])
  case true =>
    have HP := Lib.hid (show parseOf fmD s = some (sgn fmD (sgB s 0) fmD.inf) by unfold parseOf; rw [HNAN.out, hinf]; rfl)
    have HOR := Lib.hid (or_high 63 fmD.inf (by omega) (inf_lt fmD (.inr rfl)))
    go_wp2_with fail
    refine (word_walk 1 _ (by rw [W64_num]; omega)).mono ?_
    rintro e w2 ⟨v2, rfl, hn2, hb2⟩
    have hw2 : Below b w w2 := (below_dn HW1.out _).trans (hb2.mono (Nat.le_of_lt HB1.out.2.2.2.2))
    have hT2 := HT.out.low hw2 hbt
    have HN2 := Lib.hid hn2
    have HW2 := Lib.hid hw2
    have HB2 := Lib.hid (HB1.out.below ((below_dn (Below.refl _ _) _).trans hb2))
    have HT2 := Lib.hid hT2
    obtain ⟨A2, c2, rfl, hc2, hr2⟩ := hn2
    clear hc2 hr2 hw2 hT2
    go_wp2_with fail
    refine (pattern_walk_D _ 1 3000 w2 HN2.out HT2.out (by decide) (by omega) (by omega)).mono ?_
    rintro e w3 ⟨rfl, hb3⟩
    rw [near_big]
    have HW3 := Lib.hid (HW2.out.trans (hb3.mono (Nat.le_of_lt HB2.out.2.2.2.2)))
    cases hsg : sgB s 0
    · rw [hsg, sgn_false] at HP
      go_wp2
      go_ret2
      exact .inl ⟨_, HP.out, rfl, HW3.out⟩
    · rw [hsg] at HP
      go_wp2
      go_ret2
      refine .inl ⟨_, HP.out, ?_, HW3.out⟩
      refine congrArg (fun z : Int => Ending.returned (.tuple #[.int .u64 z, .int .i64 0])) ?_
      exact HOR.out
  have HINF := Lib.hid hinf
  clear b0 b1 b2 b3 b4 r2 r3
  have HB1d := HB1.out.below (below_dn (Below.refl _ w1) nq)
  have HW1d := Lib.hid (below_dn HW1.out nq)
  generalize w1.drewN nq = w1d at *
  go_wp2_with fail
  refine (number_walk b s (sgI s 0) w1d HB1d hs).mono ?_
  rintro e w2 hpost
  rcases hpost with ⟨a, x, k, v, hno, rfl, hn2, hB2, hb2⟩ | ⟨hno, ⟨j, rfl⟩, hb2⟩
  case inr =>
    have HP := Lib.hid (show parseOf fmD s = none by unfold parseOf; rw [HNAN.out, HINF.out, hno]; rfl)
    have HW2 := Lib.hid (HW1d.out.trans hb2)
    clear hno hb2
    go_wp2
    exact ⟨rfl, .inr ⟨HP.out, ⟨j, rfl⟩, HW2.out⟩⟩
  obtain ⟨hbl, hx1, hx2, hks⟩ := numOf_bounds hs hno
  have HNO := Lib.hid hno
  have HN2 := Lib.hid hn2
  have HB2 := Lib.hid hB2
  have HW2 := Lib.hid (HW1d.out.trans hb2)
  have HB1d := Lib.hid HB1d
  obtain ⟨A2, c2, rfl, hc2, hr2⟩ := hn2
  clear hc2 hr2 hno hb2 hB2
  obtain ⟨b0, b1, b2, b3, b4⟩ := HB2.out
  go_wp2_with fail
  by_cases hk : k < s.size
  · have hk2 : decide ((k : Int) < (s.size : Int)) = true := decide_eq_true (by omega)
    have HP := Lib.hid (show parseOf fmD s = none by unfold parseOf; rw [HNAN.out, HINF.out, HNO.out]; exact if_pos hk)
    go_quiet (fail)
    go_wp2_with fail
    refine (fail_walk b s k _ (HB2.out.below (below_dn (Below.refl _ _) _))).mono ?_
    rintro e w3 ⟨rfl, rfl⟩
    go_wp2
    exact ⟨rfl, .inr ⟨HP.out, ⟨_, rfl⟩, below_dn HW2.out _⟩⟩
  · have hk2 : decide ((k : Int) < (s.size : Int)) = false := decide_eq_false (by omega)
    have hk3 : ¬ (k : Int) < (s.size : Int) := by omega
    have HP := Lib.hid (show parseOf fmD s = some (sgn fmD (sgB s 0) (hxPat fmD a x)) by unfold parseOf; rw [HNAN.out, HINF.out, HNO.out]; exact if_neg hk)
    have HOR := Lib.hid (or_high 63 (hxPat fmD a x) (by omega) (Nat.lt_of_le_of_lt (hxPat_le _ _ _) (inf_lt fmD (.inr rfl))))
    have HT2 := Lib.hid (HT.out.low HW2.out hbt)
    go_quiet (fail)
    go_wp2_with fail
    refine (pattern_walk_D _ a x _ (HN2.out.below (below_dn (Below.refl _ _) _)) (HT2.out.below (below_dn (Below.refl _ _) _)) (by omega) (by omega) (by omega)).mono ?_
    rintro e w3 ⟨rfl, hb3⟩
    have HW3 := Lib.hid ((below_dn HW2.out _).trans (hb3.mono (Nat.le_of_lt HB2.out.2.2.2.2)))
    clear b0 b1 b2 b3 b4
    cases hsg : sgB s 0
    · rw [hsg, sgn_false] at HP
      go_wp2
      go_ret2
      exact .inl ⟨_, HP.out, rfl, HW3.out⟩
    · rw [hsg] at HP
      go_wp2
      go_ret2
      refine .inl ⟨_, HP.out, ?_, HW3.out⟩
      refine congrArg (fun z : Int => Ending.returned (.tuple #[.int .u64 z, .int .i64 0])) ?_
      exact HOR.out

end Go.Proofs.YtibjogbalmbeeaaGreatDoor
