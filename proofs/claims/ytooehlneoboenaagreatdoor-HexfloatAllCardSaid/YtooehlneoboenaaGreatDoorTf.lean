/- Plain law: the digits that the reference's Print writes, from the last to the first. -/
import Derived.Test.YtooehlneoboenaaGreatDoorHj
namespace Go.Proofs.YtooehlneoboenaaGreatDoor

/-- The k digits of F at base 16. -/
def gx : Nat → Nat → List UInt8
  | 0, _ => []
  | k + 1, F => hxDig (F / 16 ^ k) :: gx k (F % 16 ^ k)
theorem gx_step (i m : Nat) : gx (i + 1) (m % 16 ^ (i + 1)) = hxDig (m / 16 ^ i % 16) :: gx i (m % 16 ^ i) := by
  rw [gx, Nat.pow_succ, Nat.mod_mul_right_div_self, Nat.mod_mul_right_mod]
theorem digs_gx : ∀ (k n F : Nat), k ≤ n → n ≤ 16 → F < 16 ^ k → (k = 0 ∨ F % 16 ≠ 0) → digs n (F * 16 ^ (16 - k)) = gx k F
  | 0, n, F, _, _, hF, _ => by
    have : F = 0 := by rw [Nat.pow_zero] at hF; omega
    subst this
    rw [Nat.zero_mul, digs_zero]; rfl
  | k + 1, 0, F, h, _, _, _ => by omega
  | k + 1, n + 1, F, h, hn, hF, hz => by
    have hz' : F % 16 ≠ 0 := hz.resolve_left (by omega)
    have hp : 0 < 16 ^ (16 - (k + 1)) := Nat.pow_pos (by omega)
    have hR : F * 16 ^ (16 - (k + 1)) ≠ 0 := Nat.mul_ne_zero (by omega) (by omega)
    have e15 : (2 : Nat) ^ 60 = 16 ^ k * 16 ^ (16 - (k + 1)) := by
      rw [← Nat.pow_add, show k + (16 - (k + 1)) = 15 by omega]
    have e16 : (2 : Nat) ^ 64 = 16 ^ k * 16 ^ (16 - k) := by
      rw [← Nat.pow_add, show k + (16 - k) = 16 by omega]
    have eq : F * 16 ^ (16 - (k + 1)) / 2 ^ 60 = F / 16 ^ k := by
      rw [e15, Nat.mul_div_mul_right _ _ hp]
    have e1 : F * 16 ^ (16 - (k + 1)) * 16 = F * 16 ^ (16 - k) := by
      rw [Nat.mul_assoc, ← Nat.pow_succ, show (16 - (k + 1)).succ = 16 - k by omega]
    have er : F * 16 ^ (16 - (k + 1)) * 16 % 2 ^ 64 = F % 16 ^ k * 16 ^ (16 - k) := by
      rw [e1, e16, Nat.mul_mod_mul_right]
    rw [digs, if_neg hR, gx, eq, er]
    congr 1
    refine digs_gx k n _ (by omega) (by omega) (Nat.mod_lt _ (Nat.pow_pos (by omega))) ?_
    rcases Nat.eq_zero_or_pos k with h0 | h0
    · exact .inl h0
    · right
      obtain ⟨j, rfl⟩ : ∃ j, k = j + 1 := ⟨k - 1, by omega⟩
      rw [Nat.pow_succ, Nat.mod_mul_left_mod]
      exact hz'

/-- The fraction of a number that is brought to a full digit. -/
theorem frac_gx {m k : Nat} (h1 : blen m = 4 * k + 1) (hk : k < 16) (hz : k = 0 ∨ m % 16 ≠ 0) : digs 16 (fracOf m) = gx k (m % 16 ^ k) := by
  have hm : m ≠ 0 := by intro h; subst h; simp [blen_zero] at h1
  have hlo := blen_lo hm
  have hhi := blen_hi m
  rw [h1] at hlo hhi
  rw [Nat.add_sub_cancel] at hlo
  have ep : (2 : Nat) ^ (4 * k) = 16 ^ k := by rw [Nat.pow_mul]
  rw [ep] at hlo
  rw [Nat.pow_succ, ep] at hhi
  have hF : m % 16 ^ k = m - 16 ^ k := by
    have e : m = (m - 16 ^ k) + 16 ^ k := by omega
    have l : m - 16 ^ k < 16 ^ k := by omega
    rw [e, Nat.add_mod_right, Nat.mod_eq_of_lt l]; omega
  have hfr : fracOf m = (m % 16 ^ k) * 16 ^ (16 - k) := by
    have e64 : (2 : Nat) ^ 64 = 16 ^ k * 16 ^ (16 - k) := by rw [← Nat.pow_add, show k + (16 - k) = 16 by omega]
    have e63 : (2 : Nat) ^ (63 - 4 * k) * 2 = 16 ^ (16 - k) := by
      rw [← Nat.pow_succ, show (16 : Nat) = 2 ^ 4 from rfl, ← Nat.pow_mul]; congr 1; omega
    unfold fracOf
    rw [h1, Nat.add_sub_cancel]
    have e0 : m * 2 ^ (63 - 4 * k) % 2 ^ 64 * 2 % 2 ^ 64 = m * (2 ^ (63 - 4 * k) * 2) % 2 ^ 64 := by
      rw [← Nat.mul_assoc]; omega
    rw [e0, e63, e64, Nat.mul_mod_mul_right]
  rw [hfr]
  refine digs_gx k 16 _ (by omega) (by omega) (Nat.mod_lt _ (Nat.pow_pos (by omega))) ?_
  rcases Nat.eq_zero_or_pos k with h0 | h0
  · exact .inl h0
  · obtain ⟨j, rfl⟩ : ∃ j, k = j + 1 := ⟨k - 1, by omega⟩
    rw [Nat.pow_succ, Nat.mod_mul_left_mod]
    exact .inr (hz.resolve_left (by omega))
/-- The fraction does not change with the power of two. -/
theorem frac_pow {m : Nat} (hm : m ≠ 0) (j : Nat) (hb : blen m + j ≤ 64) : fracOf (m * 2 ^ j) = fracOf m := by
  unfold fracOf
  have := blen_pos hm
  rw [blen_mul_pow hm, Nat.mul_assoc, ← Nat.pow_add, show j + (63 - (blen m + j - 1)) = 63 - (blen m - 1) by omega]
theorem frac_all {a i j k m c : Nat} (ha : a ≠ 0) (hodd : a % 2 = 1) (hm : a * 2 ^ j = m) (hbm : blen m ≤ 64) (hc : c = a * 2 ^ i) (hi : i ≤ 3) (hb : blen c = 4 * k + 1) (hk : k < 16) :
    digs 16 (fracOf m) = gx k (c % 16 ^ k) := by
  have e1 : blen m = blen a + j := by rw [← hm, blen_mul_pow ha]
  have e2 : blen c = blen a + i := by rw [hc, blen_mul_pow ha]
  rw [← hm, frac_pow ha j (by omega), ← frac_pow ha i (by omega), ← hc]
  refine frac_gx hb hk (.inr ?_)
  have h4 : i = 0 ∨ i = 1 ∨ i = 2 ∨ i = 3 := by omega
  rw [hc]
  rcases h4 with h | h | h | h <;> subst h <;> omega
/-- What stands above the digits that are told. -/
theorem top_dig {c k i : Nat} (hb : blen c = 4 * k + 1) (hi : i ≤ k) : (i = k ∧ c / 16 ^ i = 1) ∨ (i < k ∧ 16 ≤ c / 16 ^ i) := by
  have hc : c ≠ 0 := by intro h; subst h; simp [blen_zero] at hb
  have hlo := blen_lo hc
  have hhi := blen_hi c
  rw [hb] at hlo hhi
  rw [Nat.add_sub_cancel] at hlo
  have ep : (2 : Nat) ^ (4 * k) = 16 ^ k := by rw [Nat.pow_mul]
  rw [ep] at hlo
  rw [Nat.pow_succ, ep] at hhi
  rcases Nat.lt_or_ge i k with h | h
  · right
    refine ⟨h, ?_⟩
    rw [Nat.le_div_iff_mul_le (Nat.pow_pos (by omega)), ← Nat.pow_succ']
    exact Nat.le_trans (Nat.pow_le_pow_right (by omega) h) hlo
  · left
    have e : i = k := by omega
    refine ⟨e, ?_⟩
    rw [e]
    exact Nat.div_eq_of_lt_le (by omega) (by omega)
/-- The text of an exponent with its sign. -/
theorem itoa_sign (t : Int) : (if 0 ≤ t then [43] else []) ++ Lib.itoa t = [if t < 0 then (45 : UInt8) else 43] ++ Lib.itoa (if t < 0 then -t else t) := by
  by_cases h : t < 0
  · rw [if_neg (by omega), if_pos h, if_pos h]
    unfold Lib.itoa
    rw [if_pos h, if_neg (by omega), show t.natAbs = (-t).toNat by omega]
    rfl
  · rw [if_pos (by omega), if_neg h, if_neg h]
theorem prN_eq (neg : Bool) (ds : List UInt8) (t : Int) : prN neg ds t = (if neg then [45] else []) ++ [48, 120, 49] ++ (if ds = [] then [] else 46 :: ds) ++ [112] ++ ((if 0 ≤ t then [43] else []) ++ Lib.itoa t) := by
  rw [itoa_sign]; unfold prN; simp
end Go.Proofs.YtooehlneoboenaaGreatDoor
