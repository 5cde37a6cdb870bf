/- Plain law: a text with a byte that no text has means nothing. -/
import Derived.Test.YtooehlneoboenaaDoorHi
namespace Go.Proofs.YtooehlneoboenaaDoor

def knownSet : ByteArray := ⟨#[48, 49, 50, 51, 52, 53, 54, 55, 56, 57, 97, 98, 99, 100, 101, 102, 65, 66, 67, 68, 69, 70, 120, 88, 112, 80, 46, 43, 45, 105, 110]⟩
def isKn (c : UInt8) : Bool := knownSet.data.toList.contains c
theorem kn_hex (c : UInt8) (h : isHex c = true) : isKn c = true := by
  unfold isHex hexSet at h
  unfold isKn knownSet
  simp only [List.contains_eq_mem, List.mem_cons, List.not_mem_nil, or_false, decide_eq_true_eq] at h ⊢
  rcases h with h | h | h | h | h | h | h | h | h | h | h | h | h | h | h | h | h | h | h | h | h | h <;> subst h <;> decide
theorem kn_dec (c : UInt8) (h : isDec c = true) : isKn c = true := by
  unfold isDec decSet at h
  simp only [List.contains_eq_mem, List.mem_cons, List.not_mem_nil, or_false, decide_eq_true_eq] at h
  rcases h with h | h | h | h | h | h | h | h | h | h <;> subst h <;> decide
theorem dc_all (s : ByteArray) (i j : Nat) (h1 : i ≤ j) (h2 : j < dcE s i) : isDec (by8 s j) = true := runTo_all _ _ _ _ _ h1 h2
theorem sgI_kn (s : ByteArray) (i j : Nat) (h1 : i ≤ j) (h2 : j < sgI s i) : isKn (by8 s j) = true := by
  unfold sgI at h2
  split at h2
  · rename_i h
    have e : j = i := by omega
    subst e
    rcases h.2 with h | h <;> rw [h] <;> decide
  · omega
theorem dg_kn (s : ByteArray) (i j : Nat) (h1 : i ≤ j) (h2 : j < dgE s i) : isKn (by8 s j) = true := by
  unfold dgE at h2
  split at h2
  · rename_i h
    by_cases h3 : j < hxE s i
    · exact kn_hex _ (hx_all s i j h1 h3)
    · by_cases h4 : j = hxE s i
      · rw [h4, h.2]; decide
      · exact kn_hex _ (hx_all s _ j (by omega) h2)
  · exact kn_hex _ (hx_all s i j h1 h2)
theorem num_kn {s : ByteArray} {i a k : Nat} {x : Int} (h : numOf s i = some (a, x, k)) (j : Nat) (h1 : i ≤ j) (h2 : j < k) : isKn (by8 s j) = true := by
  unfold numOf at h
  split at h
  · cases h
  split at h
  · cases h
  split at h
  · cases h
  split at h
  · cases h
  split at h
  · cases h
  rename_i g1 g2 g3 g4 g5
  have g1 := Classical.not_not.1 g1
  have g2 := Classical.not_not.1 g2
  have g4 := Classical.not_not.1 g4
  injection h with h
  injection h with ha h
  injection h with hx hk
  rw [← hk] at h2
  by_cases e1 : j = i
  · rw [e1, g1.2]; decide
  by_cases e2 : j = i + 1
  · rw [e2]; rcases g2.2 with e | e <;> rw [e] <;> decide
  by_cases e3 : j < dgE s (i + 2)
  · exact dg_kn s (i + 2) j (by omega) e3
  by_cases e4 : j = dgE s (i + 2)
  · rw [e4]; rcases g4.2 with e | e <;> rw [e] <;> decide
  by_cases e5 : j < sgI s (dgE s (i + 2) + 1)
  · exact sgI_kn s _ j (by omega) e5
  · exact kn_dec _ (dc_all s _ j (by omega) h2)
theorem toList_by8 (s : ByteArray) (j : Nat) : s.toList.getD j 0 = by8 s j := by
  unfold by8
  rw [Lib.toList_data]
theorem strange_none (f : Fm) (s : ByteArray) (j : Nat) (hj : j < s.size) (hk : isKn (by8 s j) = false) : parseOf f s = none := by
  unfold parseOf
  split
  · rename_i h
    rw [beq_iff_eq] at h
    have e : by8 s j = [110, 97, 110].getD j 0 := by rw [← h, toList_by8]
    have hl : s.size = 3 := by
      have := congrArg List.length h
      rw [Lib.toList_data, Array.length_toList] at this
      exact this
    have : j = 0 ∨ j = 1 ∨ j = 2 := by omega
    rw [e] at hk
    rcases this with rfl | rfl | rfl <;> exact absurd hk (by decide)
  · split
    · rename_i h0 h
      rw [beq_iff_eq] at h
      exfalso
      by_cases h1 : j < sgI s 0
      · rw [sgI_kn s 0 j (by omega) h1] at hk; cases hk
      · have e : by8 s j = [105, 110, 102].getD (j - sgI s 0) 0 := by
          rw [← h, toList_by8, by8_extract _ _ _ _ (Nat.le_refl _) (by omega)]
          congr 1; omega
        have hl : s.size - sgI s 0 = 3 := by
          have := congrArg List.length h
          rw [Lib.toList_data, Array.length_toList] at this
          rw [← size_ext s _ _ (Nat.le_refl _)]
          exact this
        have : j - sgI s 0 = 0 ∨ j - sgI s 0 = 1 ∨ j - sgI s 0 = 2 := by omega
        rw [e] at hk
        rcases this with h | h | h <;> rw [h] at hk <;> exact absurd hk (by decide)
    · split
      · rfl
      · rename_i a x k hn
        split
        · rfl
        · exfalso
          by_cases h1 : j < sgI s 0
          · rw [sgI_kn s 0 j (by omega) h1] at hk; cases hk
          · rw [num_kn hn j (by omega) (by omega)] at hk; cases hk
end Go.Proofs.YtooehlneoboenaaDoor
