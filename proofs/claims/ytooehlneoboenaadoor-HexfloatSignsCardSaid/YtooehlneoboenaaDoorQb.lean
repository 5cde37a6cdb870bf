/- Plain law: a byte set in front moves what is read; a sign in front turns the sign alone. -/
import Derived.Test.YtooehlneoboenaaDoorHi
namespace Go.Proofs.YtooehlneoboenaaDoor

/-- s with the byte c in front. -/
def front (c : UInt8) (s : ByteArray) : ByteArray := (⟨#[c]⟩ : ByteArray) ++ s
theorem front_size (c : UInt8) (s : ByteArray) : (front c s).size = s.size + 1 := by
  unfold front; rw [ByteArray.size_append, Nat.add_comm]; rfl
theorem front_by8 (c : UInt8) (s : ByteArray) (j : Nat) : by8 (front c s) (j + 1) = by8 s j := by
  unfold front
  rw [by8_append, if_neg (by show ¬ j + 1 < 1; omega)]
  rfl
theorem front_by0 (c : UInt8) (s : ByteArray) : by8 (front c s) 0 = c := by
  unfold front
  rw [by8_append, if_pos (by show 0 < 1; omega)]
  rfl
theorem runTo_end (p : UInt8 → Bool) (s : ByteArray) (f i : Nat) (hf : s.size ≤ i + f) : ¬ (runTo p s f i < s.size ∧ p (by8 s (runTo p s f i)) = true) := by
  induction f generalizing i with
  | zero => unfold runTo; intro h; omega
  | succ f ih =>
    unfold runTo
    split
    · exact ih (i + 1) (by omega)
    · rename_i h; exact h
theorem runTo_front (p : UInt8 → Bool) (c : UInt8) (s : ByteArray) (i : Nat) (hi : i ≤ s.size) : runTo p (front c s) (front c s).size (i + 1) = runTo p s s.size i + 1 := by
  have h1 := runTo_ge p s s.size i
  have h2 := runTo_le p s s.size i hi
  have h3 := runTo_end p s s.size i (by omega)
  refine runTo_of p (front c s) _ _ _ (Nat.succ_le_succ h1) (Nat.le_add_left _ _) (by rw [front_size]; exact Nat.succ_le_succ h2) (fun j h4 h5 => ?_) (fun h => ?_)
  · obtain ⟨k, rfl⟩ : ∃ k, j = k + 1 := ⟨j - 1, by omega⟩
    rw [front_by8]
    exact runTo_all p s s.size i k (by omega) (by omega)
  · rw [front_by8, front_size] at h
    exact h3 ⟨by omega, h.2⟩
theorem hxE_front (c : UInt8) (s : ByteArray) (i : Nat) (hi : i ≤ s.size) : hxE (front c s) (i + 1) = hxE s i + 1 := runTo_front _ _ _ _ hi
theorem dcE_front (c : UInt8) (s : ByteArray) (i : Nat) (hi : i ≤ s.size) : dcE (front c s) (i + 1) = dcE s i + 1 := runTo_front _ _ _ _ hi
theorem ba_ext (a b : ByteArray) (h : a.size = b.size) (h2 : ∀ j, j < a.size → by8 a j = by8 b j) : a = b := by
  apply ByteArray.ext
  apply Array.ext'
  apply List.ext_getElem
  · rw [Array.length_toList, Array.length_toList]; exact h
  · intro j h3 h4
    have h5 : j < a.size := by rw [Array.length_toList] at h3; exact h3
    have := h2 j h5
    unfold by8 at this
    rw [List.getD_eq_getElem?_getD, List.getD_eq_getElem?_getD, List.getElem?_eq_getElem h3, List.getElem?_eq_getElem h4] at this
    exact this
theorem extract_front (c : UInt8) (s : ByteArray) (a b : Nat) (hb : b ≤ s.size) : (front c s).extract (a + 1) (b + 1) = s.extract a b := by
  have h1 : b + 1 ≤ (front c s).size := by rw [front_size]; omega
  apply ba_ext
  · rw [size_ext _ _ _ h1, size_ext _ _ _ hb]; omega
  · intro j hj
    rw [size_ext _ _ _ h1] at hj
    rw [by8_extract _ _ _ _ h1 hj, by8_extract _ _ _ _ hb (by omega), show a + 1 + j = (a + j) + 1 by omega, front_by8]
theorem dv_front (c : UInt8) (s : ByteArray) (i m : Nat) : dv (front c s) (i + 1) m = dv s i m := by
  induction m with
  | zero => rfl
  | succ m ih => unfold dv; rw [ih, show i + 1 + m = (i + m) + 1 by omega, front_by8]
theorem sgI_front (c : UInt8) (s : ByteArray) (i : Nat) : sgI (front c s) (i + 1) = sgI s i + 1 := by
  unfold sgI
  rw [front_by8, front_size]
  split
  · rename_i h; rw [if_pos ⟨by omega, h.2⟩]
  · rename_i h; rw [if_neg (fun g => h ⟨by omega, g.2⟩)]
theorem sgB_front (c : UInt8) (s : ByteArray) (i : Nat) : sgB (front c s) (i + 1) = sgB s i := by
  unfold sgB
  rw [front_by8, front_size, show decide (i + 1 < s.size + 1) = decide (i < s.size) by simp]
theorem dg_front (c : UInt8) (s : ByteArray) (i : Nat) (hi : i ≤ s.size) : dgD (front c s) (i + 1) = dgD s i ∧ dgB (front c s) (i + 1) = dgB s i ∧ dgE (front c s) (i + 1) = dgE s i + 1 := by
  have h1 : hxE s i ≤ s.size := runTo_le isHex s s.size i hi
  unfold dgD dgB dgE
  rw [hxE_front c s i hi, front_by8, front_size]
  by_cases h : hxE s i < s.size ∧ by8 s (hxE s i) = 46
  · have h2 : hxE s i + 1 < s.size + 1 ∧ by8 s (hxE s i) = 46 := ⟨by omega, h.2⟩
    have h3 : hxE s (hxE s i + 1) ≤ s.size := runTo_le isHex s s.size _ h.1
    rw [if_pos h, if_pos h2, if_pos h, if_pos h2, if_pos h, if_pos h2, hxE_front c s _ h.1, extract_front _ _ _ _ h1, extract_front _ _ _ _ h3]
    exact ⟨rfl, rfl, rfl⟩
  · have h2 : ¬ (hxE s i + 1 < s.size + 1 ∧ by8 s (hxE s i) = 46) := fun g => h ⟨by omega, g.2⟩
    rw [if_neg h, if_neg h2, if_neg h, if_neg h2, if_neg h, if_neg h2, extract_front _ _ _ _ h1]
    exact ⟨rfl, rfl, rfl⟩
theorem dgE_le (s : ByteArray) (i : Nat) (hi : i ≤ s.size) : dgE s i ≤ s.size := (dg_size s i hi).2.2
theorem numOf_front (c : UInt8) (s : ByteArray) (i : Nat) : numOf (front c s) (i + 1) = (numOf s i).map fun r => (r.1, r.2.1, r.2.2 + 1) := by
  unfold numOf
  rw [front_by8, front_size]
  by_cases h1 : i < s.size ∧ by8 s i = 48
  · have e1 : ¬ ¬ (i + 1 < s.size + 1 ∧ by8 s i = 48) := fun g => g ⟨by omega, h1.2⟩
    have e1' : ¬ ¬ (i < s.size ∧ by8 s i = 48) := fun g => g h1
    rw [if_neg e1, if_neg e1', front_by8]
    by_cases h2 : i + 1 < s.size ∧ (by8 s (i + 1) = 120 ∨ by8 s (i + 1) = 88)
    · have e2 : ¬ ¬ (i + 1 + 1 < s.size + 1 ∧ (by8 s (i + 1) = 120 ∨ by8 s (i + 1) = 88)) := fun g => g ⟨by omega, h2.2⟩
      have e2' : ¬ ¬ (i + 1 < s.size ∧ (by8 s (i + 1) = 120 ∨ by8 s (i + 1) = 88)) := fun g => g h2
      rw [if_neg e2, if_neg e2', show i + 1 + 2 = (i + 2) + 1 by omega]
      obtain ⟨hD, hB, hE⟩ := dg_front c s (i + 2) (by omega)
      have hV : dgV (front c s) (i + 2 + 1) = dgV s (i + 2) := by unfold dgV; rw [hD]
      rw [hD, hB, hE, hV, front_by8]
      by_cases h3 : (dgD s (i + 2)).size = 0
      · rw [if_pos h3, if_pos h3]; rfl
      · rw [if_neg h3, if_neg h3]
        by_cases h4 : dgE s (i + 2) < s.size ∧ (by8 s (dgE s (i + 2)) = 112 ∨ by8 s (dgE s (i + 2)) = 80)
        · have e4 : ¬ ¬ (dgE s (i + 2) + 1 < s.size + 1 ∧ (by8 s (dgE s (i + 2)) = 112 ∨ by8 s (dgE s (i + 2)) = 80)) := fun g => g ⟨by omega, h4.2⟩
          have e4' : ¬ ¬ (dgE s (i + 2) < s.size ∧ (by8 s (dgE s (i + 2)) = 112 ∨ by8 s (dgE s (i + 2)) = 80)) := fun g => g h4
          rw [if_neg e4, if_neg e4', sgI_front, front_by8, sgB_front]
          by_cases h5 : sgI s (dgE s (i + 2) + 1) < s.size ∧ isDec (by8 s (sgI s (dgE s (i + 2) + 1))) = true
          · have e5 : ¬ ¬ (sgI s (dgE s (i + 2) + 1) + 1 < s.size + 1 ∧ isDec (by8 s (sgI s (dgE s (i + 2) + 1))) = true) := fun g => g ⟨by omega, h5.2⟩
            have e5' : ¬ ¬ (sgI s (dgE s (i + 2) + 1) < s.size ∧ isDec (by8 s (sgI s (dgE s (i + 2) + 1))) = true) := fun g => g h5
            have hX : exV (front c s) (sgB s (dgE s (i + 2) + 1)) (sgI s (dgE s (i + 2) + 1) + 1) = exV s (sgB s (dgE s (i + 2) + 1)) (sgI s (dgE s (i + 2) + 1)) := by
              unfold exV
              rw [dcE_front _ _ _ (by omega), dv_front, show dcE s (sgI s (dgE s (i + 2) + 1)) + 1 - (sgI s (dgE s (i + 2) + 1) + 1) = dcE s (sgI s (dgE s (i + 2) + 1)) - sgI s (dgE s (i + 2) + 1) by omega]
            rw [if_neg e5, if_neg e5', dcE_front _ _ _ (by omega), hX]; rfl
          · rw [if_pos (show ¬ (sgI s (dgE s (i + 2) + 1) + 1 < s.size + 1 ∧ isDec (by8 s (sgI s (dgE s (i + 2) + 1))) = true) from fun g => h5 ⟨by omega, g.2⟩), if_pos h5]; rfl
        · rw [if_pos (show ¬ (dgE s (i + 2) + 1 < s.size + 1 ∧ (by8 s (dgE s (i + 2)) = 112 ∨ by8 s (dgE s (i + 2)) = 80)) from fun g => h4 ⟨by omega, g.2⟩), if_pos h4]; rfl
    · rw [if_pos (show ¬ (i + 1 + 1 < s.size + 1 ∧ (by8 s (i + 1) = 120 ∨ by8 s (i + 1) = 88)) from fun g => h2 ⟨by omega, g.2⟩), if_pos h2]; rfl
  · rw [if_pos (show ¬ (i + 1 < s.size + 1 ∧ by8 s i = 48) from fun g => h1 ⟨by omega, g.2⟩), if_pos h1]; rfl
end Go.Proofs.YtooehlneoboenaaDoor
