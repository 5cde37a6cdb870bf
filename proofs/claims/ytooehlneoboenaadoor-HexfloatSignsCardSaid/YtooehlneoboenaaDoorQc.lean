/- Plain law: a sign in front turns the sign of what is read, and nothing else. -/
import Derived.Test.YtooehlneoboenaaDoorQb
namespace Go.Proofs.YtooehlneoboenaaDoor

theorem toList_length (s : ByteArray) : s.toList.length = s.size := by rw [Lib.toList_data, Array.length_toList]; rfl
theorem toList_get (s : ByteArray) (j : Nat) : s.toList.getD j 0 = by8 s j := by unfold by8; rw [Lib.toList_data]
theorem sgn_free {s : ByteArray} (h : s.size = 0 ∨ ¬ (by8 s 0 = 45 ∨ by8 s 0 = 43)) : sgI s 0 = 0 ∧ sgB s 0 = false := by
  unfold sgI sgB
  constructor
  · rw [if_neg]
    rintro ⟨h1, h2⟩
    rcases h with h | h
    · omega
    · exact h h2
  · cases hb : by8 s 0 == 45
    · simp
    · rw [beq_iff_eq] at hb
      rcases h with h | h
      · simp [h]
      · exact absurd (.inl hb) h
theorem front_sgn {c : UInt8} (hc : c = 45 ∨ c = 43) (s : ByteArray) : sgI (front c s) 0 = 1 ∧ sgB (front c s) 0 = (c == 45) := by
  have h0 : 0 < (front c s).size := by rw [front_size]; omega
  unfold sgI sgB
  rw [front_by0]
  exact ⟨by rw [if_pos ⟨h0, hc⟩], by simp [h0]⟩
theorem front_nan {c : UInt8} (hc : c = 45 ∨ c = 43) (s : ByteArray) : ((front c s).toList == [110, 97, 110]) = false := by
  cases h : (front c s).toList == [110, 97, 110]
  · rfl
  · exfalso
    rw [beq_iff_eq] at h
    have h2 := toList_get (front c s) 0
    rw [h, front_by0] at h2
    rcases hc with rfl | rfl <;> exact absurd h2 (by decide)
theorem front_parse (f : Fm) {c : UInt8} (hc : c = 45 ∨ c = 43) {s : ByteArray} (h : s.size = 0 ∨ ¬ (by8 s 0 = 45 ∨ by8 s 0 = 43)) (hn : (s.toList == [110, 97, 110]) = false) :
    parseOf f (front c s) = (parseOf f s).map fun p => sgn f (c == 45) p := by
  obtain ⟨a1, a2⟩ := sgn_free h
  obtain ⟨b1, b2⟩ := front_sgn hc s
  have he : (front c s).extract 1 (front c s).size = s.extract 0 s.size := by
    rw [front_size]; exact extract_front c s 0 s.size (Nat.le_refl _)
  unfold parseOf
  rw [hn, front_nan hc s, a1, a2, b1, b2, he, show (1 : Nat) = 0 + 1 from rfl, numOf_front]
  simp only [Bool.false_eq_true, if_false]
  split
  · rw [sgn_false]; rfl
  · cases hx : numOf s 0 with
    | none => rfl
    | some r =>
      obtain ⟨a, x, k⟩ := r
      simp only [Option.map_some, front_size]
      by_cases hk : k < s.size
      · rw [if_pos (by omega), if_pos hk]; rfl
      · rw [if_neg (by omega), if_neg hk, sgn_false]; rfl
theorem front_of_nan (f : Fm) {c : UInt8} (hc : c = 45 ∨ c = 43) {s : ByteArray} (hn : (s.toList == [110, 97, 110]) = true) : parseOf f (front c s) = none := by
  rw [beq_iff_eq] at hn
  obtain ⟨b1, b2⟩ := front_sgn hc s
  have hl : s.size = 3 := by rw [← toList_length, hn]; rfl
  have h0 : by8 s 0 = 110 := by rw [← toList_get, hn]; rfl
  have he : (front c s).extract 1 (front c s).size = s := by
    rw [front_size, show (1 : Nat) = 0 + 1 from rfl, extract_front c s 0 s.size (Nat.le_refl _)]
    apply ba_ext
    · rw [size_ext _ _ _ (Nat.le_refl _)]; rfl
    · intro j hj
      rw [size_ext _ _ _ (Nat.le_refl _)] at hj
      rw [by8_extract _ _ _ _ (Nat.le_refl _) hj, Nat.zero_add]
  unfold parseOf
  rw [front_nan hc s, b1, he, hn, show (1 : Nat) = 0 + 1 from rfl, numOf_front]
  have hnum : numOf s 0 = none := by
    unfold numOf
    rw [if_pos]
    rintro ⟨_, h⟩
    rw [h0] at h
    exact absurd h (by decide)
  rw [hnum]
  rfl
/-- A pattern without sign is small; the sign is one bit. -/
theorem inf_S (f : Fm) (hf : f.ok) : f.inf < 2 ^ f.S := inf_lt f hf
end Go.Proofs.YtooehlneoboenaaDoor
