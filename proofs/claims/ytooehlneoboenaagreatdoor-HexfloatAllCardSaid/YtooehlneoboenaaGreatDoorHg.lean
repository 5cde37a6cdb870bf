/- Walks of binary: shapeOf, Quiet; of hexfloat's reader: read; for both formats (printed by gen_read.py). -/
import Derived.Test.YtooehlneoboenaaGreatDoorHf
namespace Go.Proofs.YtooehlneoboenaaGreatDoor
open Go.RowKit

def Fm.quiet (f : Fm) : Nat := if f.S = 31 then 2143289345 else 9221120237041090561
theorem sgn_false (f : Fm) (x : Nat) : sgn f false x = x := by simp [sgn]
theorem near_big (f : Fm) : hxPat f 1 3000 = f.inf := by
  have h1 : blen 1 = 1 := by decide
  unfold hxPat
  rw [h1, if_neg (by omega), if_pos (by omega)]
  unfold near
  rw [if_neg (by omega), sgn_false]
  unfold rsize
  rw [h1, if_pos (by omega)]
theorem hxPat_le (f : Fm) (a : Nat) (x : Int) : hxPat f a x ≤ f.inf := by
  unfold hxPat near
  rw [sgn_false, sgn_false]
  split
  · exact Nat.zero_le _
  · split
    · split
      · exact Nat.zero_le _
      · exact rsize_le _ _ _
    · split
      · exact Nat.zero_le _
      · exact rsize_le _ _ _
/-- What a text means: its pattern, or none. -/
def parseOf (f : Fm) (s : ByteArray) : Option Nat :=
  if s.toList == [110, 97, 110] then some f.quiet else
  if (s.extract (sgI s 0) s.size).toList == [105, 110, 102] then some (sgn f (sgB s 0) f.inf) else
  match numOf s (sgI s 0) with
  | none => none
  | some (a, x, k) => if k < s.size then none else some (sgn f (sgB s 0) (hxPat f a x))
/-- What read comes to. -/
def ReadPost (f : Fm) (b : Nat) (s : ByteArray) (w : World) (e : Ending) (w' : World) : Prop :=
  (∃ p : Nat, parseOf f s = some p ∧ e = .returned (.tuple #[.int .u64 (p : Int), .int .i64 0]) ∧ Below b w w') ∨
  (parseOf f s = none ∧ (∃ j, e = .panicked [faultAt j]) ∧ Below b w w')

set_option maxRecDepth 100000 in
theorem numOf_bounds {s : ByteArray} {i a k : Nat} {x : Int} (hs : s.size ≤ 4100) (h : numOf s i = some (a, x, k)) : blen a ≤ 20000 ∧ -4000000000000 ≤ x ∧ x ≤ 4000000000000 ∧ k ≤ s.size := by
  unfold numOf at h
  split at h
  · cases h
  split at h
  · cases h
  split at h
  · cases h
  split at h
  · cases h
  split at h
  · cases h
  rename_i h1 h2 h3 h4 h5
  injection h with h
  injection h with ha h
  injection h with hx hk
  have hj : i + 2 ≤ s.size := by
    have : i + 1 < s.size := Classical.byContradiction fun e => h2 (fun g => e g.1)
    omega
  have hsz := dg_size s (i + 2) hj
  have hq : sgI s (dgE s (i + 2) + 1) < s.size := Classical.byContradiction fun e => h5 (fun g => e g.1)
  refine ⟨?_, ?_, ?_, ?_⟩
  · rw [← ha]
    have hlt := hv_lt (by8 (dgD s (i + 2))) (dgD s (i + 2)).size (dgD s (i + 2)).size fun j hj2 => hexV_lt _ (dg_hex s (i + 2) hj _ (by omega))
    have h6 : blen (dgV s (i + 2)) ≤ 4 * (dgD s (i + 2)).size := blen_le.2 (by rw [Nat.pow_mul]; exact hlt)
    omega
  · have := dv_le s (sgI s (dgE s (i + 2) + 1)) (dcE s (sgI s (dgE s (i + 2) + 1)) - sgI s (dgE s (i + 2) + 1))
    unfold far at this
    rw [← hx]; unfold exV; split <;> omega
  · have := dv_le s (sgI s (dgE s (i + 2) + 1)) (dcE s (sgI s (dgE s (i + 2) + 1)) - sgI s (dgE s (i + 2) + 1))
    unfold far at this
    rw [← hx]; unfold exV; split <;> omega
  · rw [← hk]; exact runTo_le _ _ _ _ (by omega)

set_option maxRecDepth 100000 in
theorem shapeOf_S (w : World) : Calls Tryz.prog 29 #[.int .i64 32] w fun e w' => e = .returned (.agg #[.int .i64 32, .int .i64 24, .int .i64 (-149), .int .u64 2143289345]) ∧ Below w.heap.size w w' := by
  go_enter Tryz.func29, Tryz.ntmps29
  go_wp2
  refine bodyPost_ret (v := .agg #[.int .i64 32, .int .i64 24, .int .i64 (-149), .int .u64 2143289345]) (by simp [results, Tryz.results29, go_sem]) rfl ⟨rfl, ?_⟩
  exact below_alloc' w _

set_option maxRecDepth 100000 in
theorem quiet_S (w : World) : Calls Tryz.prog 12 #[.int .i64 32] w fun e w' => e = .returned (.tuple #[.int .u64 2143289345, .int .i64 0]) ∧ Below w.heap.size w w' := by
  go_enter Tryz.func12, Tryz.ntmps12
  go_wp2_with fail
  refine (shapeOf_S w).mono ?_
  rintro e w1 ⟨rfl, hb1⟩
  go_wp2
  go_ret2
  exact ⟨rfl, below_chain hb1 (below_alloc' w1 _)⟩

set_option maxRecDepth 100000 in
set_option maxHeartbeats 2000000 in
theorem read_walk_S (b : Nat) (s : ByteArray) (w : World) (hB : Box2 w b (.string s) (.int .i64 0)) (hs : s.size ≤ 4100) (ht : Tab64 w) (hbt : 1 < b) :
    Calls Tryz.prog 14 #[.pointer (some ⟨b, 0, none⟩), .int .i64 32] w (ReadPost fmS b s w) := by
  have HB := Lib.hid hB
  have HT := Lib.hid ht
  obtain ⟨b0, b1, b2, b3, b4⟩ := hB
  clear ht
  cases hnan : (s.toList == [110, 97, 110])
  case true =>
    have HP := Lib.hid (show parseOf fmS s = some fmS.quiet by unfold parseOf; rw [hnan]; rfl)
    go_enter Tryz.func14, Tryz.ntmps14
    go_wp2_with fail
    refine (quiet_S w).mono ?_
    rintro e w1 ⟨rfl, hb1⟩
    go_wp2
    go_ret2
    exact .inl ⟨_, HP.out, rfl, hb1.mono (Nat.le_of_lt HB.out.2.2.2.2)⟩
  have HNAN := Lib.hid hnan
  go_enter Tryz.func14, Tryz.ntmps14
  go_wp2_with fail
  clear b0 b1 b2 b3 b4
  refine (sign_walk b s 0 w HB.out (by omega)).mono ?_
  rintro e w1 ⟨rfl, hB1, hb1⟩
  have HB1 := Lib.hid hB1
  have HW1 := Lib.hid hb1
  have hi := sgI_le s 0 (Nat.zero_le _)
  clear hB1 hb1
  obtain ⟨b0, b1, b2, b3, b4⟩ := HB1.out
  go_wp2_with fail
  have r2 : ((sgI s 0 : Nat) : Int) ≤ (s.size : Int) := by omega
  have r3 : 0 ≤ ((sgI s 0 : Nat) : Int) := by omega
  go_quiet (fail)
  cases hinf : ((s.extract (sgI s 0) s.size).toList == [105, 110, 102])
  case true =>
    have HP := Lib.hid (show parseOf fmS s = some (sgn fmS (sgB s 0) fmS.inf) by unfold parseOf; rw [HNAN.out, hinf]; rfl)
    have HOR := Lib.hid (or_high 31 fmS.inf (by omega) (inf_lt fmS (.inl rfl)))
    go_wp2_with fail
    refine (word_walk 1 _ (by rw [W64_num]; omega)).mono ?_
    rintro e w2 ⟨v2, rfl, hn2, hb2⟩
    have hw2 : Below b w w2 := (below_dn HW1.out _).trans (hb2.mono (Nat.le_of_lt HB1.out.2.2.2.2))
    have hT2 := HT.out.low hw2 hbt
    have HN2 := Lib.hid hn2
    have HW2 := Lib.hid hw2
    have HB2 := Lib.hid (HB1.out.below ((below_dn (Below.refl _ _) _).trans hb2))
    have HT2 := Lib.hid hT2
    obtain ⟨A2, c2, rfl, hc2, hr2⟩ := hn2
    clear hc2 hr2 hw2 hT2
    go_wp2_with fail
    refine (pattern_walk_S _ 1 3000 w2 HN2.out HT2.out (by decide) (by omega) (by omega)).mono ?_
    rintro e w3 ⟨rfl, hb3⟩
    rw [near_big]
    have HW3 := Lib.hid (HW2.out.trans (hb3.mono (Nat.le_of_lt HB2.out.2.2.2.2)))
    cases hsg : sgB s 0
    · rw [hsg, sgn_false] at HP
      go_wp2
      go_ret2
      exact .inl ⟨_, HP.out, rfl, HW3.out⟩
    · rw [hsg] at HP
      go_wp2
      go_ret2
      refine .inl ⟨_, HP.out, ?_, HW3.out⟩
      refine congrArg (fun z : Int => Ending.returned (.tuple #[.int .u64 z, .int .i64 0])) ?_
      exact HOR.out
  have HINF := Lib.hid hinf
  clear b0 b1 b2 b3 b4 r2 r3
  have HB1d := HB1.out.below (below_dn (Below.refl _ w1) nq)
  have HW1d := Lib.hid (below_dn HW1.out nq)
  generalize w1.drewN nq = w1d at *
  go_wp2_with fail
  refine (number_walk b s (sgI s 0) w1d HB1d hs).mono ?_
  rintro e w2 hpost
  rcases hpost with ⟨a, x, k, v, hno, rfl, hn2, hB2, hb2⟩ | ⟨hno, ⟨j, rfl⟩, hb2⟩
  case inr =>
    have HP := Lib.hid (show parseOf fmS s = none by unfold parseOf; rw [HNAN.out, HINF.out, hno]; rfl)
    have HW2 := Lib.hid (HW1d.out.trans hb2)
    clear hno hb2
    go_wp2
    exact ⟨rfl, .inr ⟨HP.out, ⟨j, rfl⟩, HW2.out⟩⟩
  obtain ⟨hbl, hx1, hx2, hks⟩ := numOf_bounds hs hno
  have HNO := Lib.hid hno
  have HN2 := Lib.hid hn2
  have HB2 := Lib.hid hB2
  have HW2 := Lib.hid (HW1d.out.trans hb2)
  have HB1d := Lib.hid HB1d
  obtain ⟨A2, c2, rfl, hc2, hr2⟩ := hn2
  clear hc2 hr2 hno hb2 hB2
  obtain ⟨b0, b1, b2, b3, b4⟩ := HB2.out
  go_wp2_with fail
  by_cases hk : k < s.size
  · have hk2 : decide ((k : Int) < (s.size : Int)) = true := decide_eq_true (by omega)
    have HP := Lib.hid (show parseOf fmS s = none by unfold parseOf; rw [HNAN.out, HINF.out, HNO.out]; exact if_pos hk)
    go_quiet (fail)
    go_wp2_with fail
    refine (fail_walk b s k _ (HB2.out.below (below_dn (Below.refl _ _) _))).mono ?_
    rintro e w3 ⟨rfl, rfl⟩
    go_wp2
    exact ⟨rfl, .inr ⟨HP.out, ⟨_, rfl⟩, below_dn HW2.out _⟩⟩
  · have hk2 : decide ((k : Int) < (s.size : Int)) = false := decide_eq_false (by omega)
    have hk3 : ¬ (k : Int) < (s.size : Int) := by omega
    have HP := Lib.hid (show parseOf fmS s = some (sgn fmS (sgB s 0) (hxPat fmS a x)) by unfold parseOf; rw [HNAN.out, HINF.out, HNO.out]; exact if_neg hk)
    have HOR := Lib.hid (or_high 31 (hxPat fmS a x) (by omega) (Nat.lt_of_le_of_lt (hxPat_le _ _ _) (inf_lt fmS (.inl rfl))))
    have HT2 := Lib.hid (HT.out.low HW2.out hbt)
    go_quiet (fail)
    go_wp2_with fail
    refine (pattern_walk_S _ a x _ (HN2.out.below (below_dn (Below.refl _ _) _)) (HT2.out.below (below_dn (Below.refl _ _) _)) (by omega) (by omega) (by omega)).mono ?_
    rintro e w3 ⟨rfl, hb3⟩
    have HW3 := Lib.hid ((below_dn HW2.out _).trans (hb3.mono (Nat.le_of_lt HB2.out.2.2.2.2)))
    clear b0 b1 b2 b3 b4
    cases hsg : sgB s 0
    · rw [hsg, sgn_false] at HP
      go_wp2
      go_ret2
      exact .inl ⟨_, HP.out, rfl, HW3.out⟩
    · rw [hsg] at HP
      go_wp2
      go_ret2
      refine .inl ⟨_, HP.out, ?_, HW3.out⟩
      refine congrArg (fun z : Int => Ending.returned (.tuple #[.int .u64 z, .int .i64 0])) ?_
      exact HOR.out

set_option maxRecDepth 100000 in
theorem shapeOf_D (w : World) : Calls Tryz.prog 29 #[.int .i64 64] w fun e w' => e = .returned (.agg #[.int .i64 64, .int .i64 53, .int .i64 (-1074), .int .u64 9221120237041090561]) ∧ Below w.heap.size w w' := by
  go_enter Tryz.func29, Tryz.ntmps29
  go_wp2
  refine bodyPost_ret (v := .agg #[.int .i64 64, .int .i64 53, .int .i64 (-1074), .int .u64 9221120237041090561]) (by simp [results, Tryz.results29, go_sem]) rfl ⟨rfl, ?_⟩
  exact below_alloc' w _

set_option maxRecDepth 100000 in
theorem quiet_D (w : World) : Calls Tryz.prog 12 #[.int .i64 64] w fun e w' => e = .returned (.tuple #[.int .u64 9221120237041090561, .int .i64 0]) ∧ Below w.heap.size w w' := by
  go_enter Tryz.func12, Tryz.ntmps12
  go_wp2_with fail
  refine (shapeOf_D w).mono ?_
  rintro e w1 ⟨rfl, hb1⟩
  go_wp2
  go_ret2
  exact ⟨rfl, below_chain hb1 (below_alloc' w1 _)⟩

set_option maxRecDepth 100000 in
set_option maxHeartbeats 2000000 in
theorem read_walk_D (b : Nat) (s : ByteArray) (w : World) (hB : Box2 w b (.string s) (.int .i64 0)) (hs : s.size ≤ 4100) (ht : Tab64 w) (hbt : 1 < b) :
    Calls Tryz.prog 14 #[.pointer (some ⟨b, 0, none⟩), .int .i64 64] w (ReadPost fmD b s w) := by
  have HB := Lib.hid hB
  have HT := Lib.hid ht
  obtain ⟨b0, b1, b2, b3, b4⟩ := hB
  clear ht
  cases hnan : (s.toList == [110, 97, 110])
  case true =>
    have HP := Lib.hid (show parseOf fmD s = some fmD.quiet by unfold parseOf; rw [hnan]; rfl)
    go_enter Tryz.func14, Tryz.ntmps14
    go_wp2_with fail
    refine (quiet_D w).mono ?_
    rintro e w1 ⟨rfl, hb1⟩
    go_wp2
    go_ret2
    exact .inl ⟨_, HP.out, rfl, hb1.mono (Nat.le_of_lt HB.out.2.2.2.2)⟩
  have HNAN := Lib.hid hnan
  go_enter Tryz.func14, Tryz.ntmps14
  go_wp2_with fail
  clear b0 b1 b2 b3 b4
  refine (sign_walk b s 0 w HB.out (by omega)).mono ?_
  rintro e w1 ⟨rfl, hB1, hb1⟩
  have HB1 := Lib.hid hB1
  have HW1 := Lib.hid hb1
  have hi := sgI_le s 0 (Nat.zero_le _)
  clear hB1 hb1
  obtain ⟨b0, b1, b2, b3, b4⟩ := HB1.out
  go_wp2_with fail
  have r2 : ((sgI s 0 : Nat) : Int) ≤ (s.size : Int) := by omega
  have r3 : 0 ≤ ((sgI s 0 : Nat) : Int) := by omega
  go_quiet (fail)
  cases hinf : ((s.extract (sgI s 0) s.size).toList == [105, 110, 102])
  case true =>
    have HP := Lib.hid (show parseOf fmD s = some (sgn fmD (sgB s 0) fmD.inf) by unfold parseOf; rw [HNAN.out, hinf]; rfl)
    have HOR := Lib.hid (or_high 63 fmD.inf (by omega) (inf_lt fmD (.inr rfl)))
    go_wp2_with fail
    refine (word_walk 1 _ (by rw [W64_num]; omega)).mono ?_
    rintro e w2 ⟨v2, rfl, hn2, hb2⟩
    have hw2 : Below b w w2 := (below_dn HW1.out _).trans (hb2.mono (Nat.le_of_lt HB1.out.2.2.2.2))
    have hT2 := HT.out.low hw2 hbt
    have HN2 := Lib.hid hn2
    have HW2 := Lib.hid hw2
    have HB2 := Lib.hid (HB1.out.below ((below_dn (Below.refl _ _) _).trans hb2))
    have HT2 := Lib.hid hT2
    obtain ⟨A2, c2, rfl, hc2, hr2⟩ := hn2
    clear hc2 hr2 hw2 hT2
    go_wp2_with fail
    refine (pattern_walk_D _ 1 3000 w2 HN2.out HT2.out (by decide) (by omega) (by omega)).mono ?_
    rintro e w3 ⟨rfl, hb3⟩
    rw [near_big]
    have HW3 := Lib.hid (HW2.out.trans (hb3.mono (Nat.le_of_lt HB2.out.2.2.2.2)))
    cases hsg : sgB s 0
    · rw [hsg, sgn_false] at HP
      go_wp2
      go_ret2
      exact .inl ⟨_, HP.out, rfl, HW3.out⟩
    · rw [hsg] at HP
      go_wp2
      go_ret2
      refine .inl ⟨_, HP.out, ?_, HW3.out⟩
      refine congrArg (fun z : Int => Ending.returned (.tuple #[.int .u64 z, .int .i64 0])) ?_
      exact HOR.out
  have HINF := Lib.hid hinf
  clear b0 b1 b2 b3 b4 r2 r3
  have HB1d := HB1.out.below (below_dn (Below.refl _ w1) nq)
  have HW1d := Lib.hid (below_dn HW1.out nq)
  generalize w1.drewN nq = w1d at *
  go_wp2_with fail
  refine (number_walk b s (sgI s 0) w1d HB1d hs).mono ?_
  rintro e w2 hpost
  rcases hpost with ⟨a, x, k, v, hno, rfl, hn2, hB2, hb2⟩ | ⟨hno, ⟨j, rfl⟩, hb2⟩
  case inr =>
    have HP := Lib.hid (show parseOf fmD s = none by unfold parseOf; rw [HNAN.out, HINF.out, hno]; rfl)
    have HW2 := Lib.hid (HW1d.out.trans hb2)
    clear hno hb2
    go_wp2
    exact ⟨rfl, .inr ⟨HP.out, ⟨j, rfl⟩, HW2.out⟩⟩
  obtain ⟨hbl, hx1, hx2, hks⟩ := numOf_bounds hs hno
  have HNO := Lib.hid hno
  have HN2 := Lib.hid hn2
  have HB2 := Lib.hid hB2
  have HW2 := Lib.hid (HW1d.out.trans hb2)
  have HB1d := Lib.hid HB1d
  obtain ⟨A2, c2, rfl, hc2, hr2⟩ := hn2
  clear hc2 hr2 hno hb2 hB2
  obtain ⟨b0, b1, b2, b3, b4⟩ := HB2.out
  go_wp2_with fail
  by_cases hk : k < s.size
  · have hk2 : decide ((k : Int) < (s.size : Int)) = true := decide_eq_true (by omega)
    have HP := Lib.hid (show parseOf fmD s = none by unfold parseOf; rw [HNAN.out, HINF.out, HNO.out]; exact if_pos hk)
    go_quiet (fail)
    go_wp2_with fail
    refine (fail_walk b s k _ (HB2.out.below (below_dn (Below.refl _ _) _))).mono ?_
    rintro e w3 ⟨rfl, rfl⟩
    go_wp2
    exact ⟨rfl, .inr ⟨HP.out, ⟨_, rfl⟩, below_dn HW2.out _⟩⟩
  · have hk2 : decide ((k : Int) < (s.size : Int)) = false := decide_eq_false (by omega)
    have hk3 : ¬ (k : Int) < (s.size : Int) := by omega
    have HP := Lib.hid (show parseOf fmD s = some (sgn fmD (sgB s 0) (hxPat fmD a x)) by unfold parseOf; rw [HNAN.out, HINF.out, HNO.out]; exact if_neg hk)
    have HOR := Lib.hid (or_high 63 (hxPat fmD a x) (by omega) (Nat.lt_of_le_of_lt (hxPat_le _ _ _) (inf_lt fmD (.inr rfl))))
    have HT2 := Lib.hid (HT.out.low HW2.out hbt)
    go_quiet (fail)
    go_wp2_with fail
    refine (pattern_walk_D _ a x _ (HN2.out.below (below_dn (Below.refl _ _) _)) (HT2.out.below (below_dn (Below.refl _ _) _)) (by omega) (by omega) (by omega)).mono ?_
    rintro e w3 ⟨rfl, hb3⟩
    have HW3 := Lib.hid ((below_dn HW2.out _).trans (hb3.mono (Nat.le_of_lt HB2.out.2.2.2.2)))
    clear b0 b1 b2 b3 b4
    cases hsg : sgB s 0
    · rw [hsg, sgn_false] at HP
      go_wp2
      go_ret2
      exact .inl ⟨_, HP.out, rfl, HW3.out⟩
    · rw [hsg] at HP
      go_wp2
      go_ret2
      refine .inl ⟨_, HP.out, ?_, HW3.out⟩
      refine congrArg (fun z : Int => Ending.returned (.tuple #[.int .u64 z, .int .i64 0])) ?_
      exact HOR.out

end Go.Proofs.YtooehlneoboenaaGreatDoor
