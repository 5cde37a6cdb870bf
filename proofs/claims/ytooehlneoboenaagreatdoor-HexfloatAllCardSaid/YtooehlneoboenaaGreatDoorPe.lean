/- Plain facts: hexadecimal digits as limbs. -/
import Derived.Test.YtooehlneoboenaaGreatDoorPd
namespace Go.Proofs.YtooehlneoboenaaGreatDoor

theorem pad_set {M p c d y : Nat} (hp : p < M) (hy : y < W64 ^ p) (hc : c < W64) (hd : d < W64) :
    (pad M (W64 ^ p * c + y)).set p d = pad M (W64 ^ p * d + y) := by
  apply list_ext
  · simp [pad_length]
  · intro j hj
    simp only [List.length_set, pad_length] at hj
    rw [el_set (by rw [pad_length]; exact hp), el_pad hj, el_pad hj]
    have hW := W64_pos
    by_cases h2 : j = p
    · subst h2
      rw [if_pos rfl, low_high hy, Nat.mod_eq_of_lt hd]
    · rw [if_neg h2]
      by_cases h3 : j < p
      · rw [low_same h3, low_same h3]
      · obtain ⟨q, rfl⟩ : ∃ q, j = p + (q + 1) := ⟨j - p - 1, by omega⟩
        rw [Nat.pow_add, ← Nat.div_div_eq_div_mul, ← Nat.div_div_eq_div_mul, low_high hy, low_high hy]
        have h4 : W64 ≤ W64 ^ (q + 1) := by rw [Nat.pow_succ]; exact Nat.le_mul_of_pos_left _ (Nat.pow_pos hW)
        rw [Nat.div_eq_of_lt (Nat.lt_of_lt_of_le hc h4), Nat.div_eq_of_lt (Nat.lt_of_lt_of_le hd h4)]
/-- The value of a hexadecimal digit. -/
def hexV (c : UInt8) : Nat := if c.toNat ≤ 57 then c.toNat - 48 else if 97 ≤ c.toNat then c.toNat - 97 + 10 else c.toNat - 65 + 10
/-- The value of the last k digits of n that f tells. -/
def hv (f : Nat → UInt8) (n : Nat) : Nat → Nat
  | 0 => 0
  | k + 1 => hv f n k + hexV (f (n - 1 - k)) * 16 ^ k
theorem hv_lt (f : Nat → UInt8) (n k : Nat) (h : ∀ j, j < k → hexV (f (n - 1 - j)) < 16) : hv f n k < 16 ^ k := by
  induction k with
  | zero => simp [hv]
  | succ k ih =>
    have h1 := ih fun j hj => h j (by omega)
    have h2 := h k (by omega)
    unfold hv
    have h3 := Nat.mul_le_mul_right (16 ^ k) (show hexV (f (n - 1 - k)) + 1 ≤ 16 from h2)
    rw [Nat.add_mul, Nat.one_mul] at h3
    rw [Nat.pow_succ]
    omega
theorem pow16 (k : Nat) : 16 ^ k = W64 ^ (k / 16) * 2 ^ (4 * (k % 16)) := by
  rw [W64_pow, ← Nat.pow_add, show (16 : Nat) = 2 ^ 4 from rfl, ← Nat.pow_mul]
  congr 1; omega
theorem hex_step {M n k : Nat} {f : Nat → UInt8} (hM : k / 16 < M) (h : ∀ j, j ≤ k → hexV (f (n - 1 - j)) < 16) :
    el (pad M (hv f n k)) (k / 16) < 2 ^ (4 * (k % 16)) ∧ hexV (f (n - 1 - k)) * 2 ^ (4 * (k % 16)) < W64 ∧
    (pad M (hv f n k)).set (k / 16) (el (pad M (hv f n k)) (k / 16) + hexV (f (n - 1 - k)) * 2 ^ (4 * (k % 16))) = pad M (hv f n (k + 1)) := by
  have h1 := hv_lt f n k fun j hj => h j (by omega)
  have h2 := h k (Nat.le_refl _)
  rw [show hv f n (k + 1) = hv f n k + hexV (f (n - 1 - k)) * 16 ^ k from rfl]
  generalize hexV (f (n - 1 - k)) = v at *
  generalize hv f n k = x at *
  rw [pow16] at h1 ⊢
  have hr : 4 * (k % 16) ≤ 60 := by omega
  generalize k / 16 = p at *
  generalize 4 * (k % 16) = r at *
  have hpp := Nat.pow_pos W64_pos (n := p)
  have e := Nat.div_add_mod x (W64 ^ p)
  have hy : x % W64 ^ p < W64 ^ p := Nat.mod_lt _ hpp
  have hc : x / W64 ^ p < 2 ^ r := by rw [Nat.div_lt_iff_lt_mul hpp, Nat.mul_comm]; exact h1
  generalize x % W64 ^ p = y at *
  generalize x / W64 ^ p = c at *
  subst e
  have hrW : 2 ^ r ≤ 2 ^ 60 := Nat.pow_le_pow_right (by omega) hr
  have hcW : c < W64 := by rw [W64_num]; omega
  have hvr : v * 2 ^ r + 2 ^ r ≤ 16 * 2 ^ 60 := by
    have h3 := Nat.mul_le_mul_right (2 ^ r) (show v + 1 ≤ 16 from h2)
    rw [Nat.add_mul, Nat.one_mul] at h3
    omega
  have e16 : W64 = 16 * 2 ^ 60 := by rw [W64_num]
  rw [el_pad_at hM hy, Nat.mod_eq_of_lt hcW]
  refine ⟨hc, by omega, ?_⟩
  rw [pad_set hM hy hcW (by omega)]
  congr 1
  rw [Nat.mul_add, Nat.add_right_comm, Nat.mul_left_comm]
end Go.Proofs.YtooehlneoboenaaGreatDoor
