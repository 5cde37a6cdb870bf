/- Plain facts: a shift to the left and a sum, limb by limb. No program in sight. -/
import Derived.Test.YtooehlneoboenaaGreatDoorPc
namespace Go.Proofs.YtooehlneoboenaaGreatDoor

theorem W64_num : W64 = 18446744073709551616 := by rw [W64_eq]
theorem pow_succ_mul (p : Nat) : W64 ^ (p + 1) = W64 ^ p * W64 := Nat.pow_succ ..
theorem low_high {p c y : Nat} (hy : y < W64 ^ p) : (W64 ^ p * c + y) / W64 ^ p = c := by
  rw [Nat.mul_add_div (Nat.pow_pos W64_pos), Nat.div_eq_of_lt hy, Nat.add_zero]
theorem low_same {p c y j : Nat} (hj : j < p) : (W64 ^ p * c + y) / W64 ^ j % W64 = y / W64 ^ j % W64 := by
  obtain ⟨q, rfl⟩ : ∃ q, p = j + (q + 1) := ⟨p - j - 1, by omega⟩
  rw [Nat.pow_add, Nat.mul_assoc, Nat.mul_add_div (Nat.pow_pos W64_pos), Nat.pow_succ, Nat.mul_comm (W64 ^ q), Nat.mul_assoc, Nat.add_comm, Nat.add_mul_mod_self_left]
theorem el_pad_at {M p c y : Nat} (hp : p < M) (hy : y < W64 ^ p) : el (pad M (W64 ^ p * c + y)) p = c % W64 := by
  rw [el_pad hp, low_high hy]
theorem pad_step {M p c d y : Nat} (hp : p + 1 < M) (hy : y < W64 ^ p) (hc : c < W64) (hd : d < W64 * W64) :
    ((pad M (W64 ^ p * c + y)).set p (d % W64)).set (p + 1) (d / W64) = pad M (W64 ^ p * d + y) := by
  apply list_ext
  · simp [pad_length]
  · intro j hj
    simp only [List.length_set, pad_length] at hj
    rw [el_set (by rw [List.length_set, pad_length]; exact hp), el_set (by rw [pad_length]; omega), el_pad hj, el_pad hj]
    have hW := W64_pos
    by_cases h1 : j = p + 1
    · subst h1
      rw [if_pos rfl, Nat.pow_succ, ← Nat.div_div_eq_div_mul, low_high hy, Nat.mod_eq_of_lt]
      exact (Nat.div_lt_iff_lt_mul hW).2 hd
    · rw [if_neg h1]
      by_cases h2 : j = p
      · subst h2
        rw [if_pos rfl, low_high hy]
      · rw [if_neg h2]
        by_cases h3 : j < p
        · rw [low_same h3, low_same h3]
        · obtain ⟨q, rfl⟩ : ∃ q, j = p + (q + 2) := ⟨j - p - 2, by omega⟩
          rw [Nat.pow_add, ← Nat.div_div_eq_div_mul, ← Nat.div_div_eq_div_mul, low_high hy, low_high hy]
          have e : W64 ^ (q + 2) = W64 ^ q * (W64 * W64) := by rw [Nat.pow_succ, Nat.pow_succ, Nat.mul_assoc]
          have h4 : 1 ≤ W64 ^ q := Nat.pow_pos hW
          have h5 : d < W64 ^ (q + 2) := by rw [e]; exact Nat.lt_of_lt_of_le hd (Nat.le_mul_of_pos_left _ h4)
          have h6 : c < W64 ^ (q + 2) := by
            refine Nat.lt_of_lt_of_le hc ?_
            rw [e]
            calc W64 = 1 * (W64 * 1) := by omega
              _ ≤ _ := Nat.mul_le_mul h4 (Nat.mul_le_mul_left _ hW)
          rw [Nat.div_eq_of_lt h5, Nat.div_eq_of_lt h6]
theorem mod_pow_succ (a i : Nat) : a % W64 ^ (i + 1) = W64 ^ i * (a / W64 ^ i % W64) + a % W64 ^ i := by
  rw [Nat.pow_succ, Nat.mod_mul]; omega
/-- One round of Shl: c the limb that stood there, x the limb that is shifted. -/
theorem shl_step {M a n i : Nat} (hM : n / 64 + i + 1 < M) :
    el (pad M (a % W64 ^ i * 2 ^ n)) (n / 64 + i) < 2 ^ (n % 64) ∧
    ((pad M (a % W64 ^ i * 2 ^ n)).set (n / 64 + i) (el (pad M (a % W64 ^ i * 2 ^ n)) (n / 64 + i) + (a / W64 ^ i % W64) * 2 ^ (n % 64) % W64)).set (n / 64 + i + 1) ((a / W64 ^ i % W64) / 2 ^ (64 - n % 64)) =
      pad M (a % W64 ^ (i + 1) * 2 ^ n) := by
  have hr : n % 64 < 64 := Nat.mod_lt _ (by omega)
  have e2 : 2 ^ n = W64 ^ (n / 64) * 2 ^ (n % 64) := by rw [W64_pow, ← Nat.pow_add]; congr 1; omega
  have hx : a / W64 ^ i % W64 < W64 := Nat.mod_lt _ W64_pos
  have ha := mod_pow_succ a i
  have hi : a % W64 ^ i < W64 ^ i := Nat.mod_lt _ (Nat.pow_pos W64_pos)
  rw [ha]
  generalize a / W64 ^ i % W64 = x at *
  generalize a % W64 ^ i = z at *
  generalize n % 64 = r at *
  generalize n / 64 = L at *
  rw [e2]
  clear e2 ha
  -- z * 2^n = W^(L+i) * c + y
  have hp : W64 ^ (L + i) = W64 ^ L * W64 ^ i := Nat.pow_add ..
  obtain ⟨c, hc⟩ : ∃ c, c = (z * 2 ^ r) / W64 ^ i := ⟨_, rfl⟩
  obtain ⟨y, hy⟩ : ∃ y, y = (z * 2 ^ r) % W64 ^ i := ⟨_, rfl⟩
  have hyl : y < W64 ^ i := by rw [hy]; exact Nat.mod_lt _ (Nat.pow_pos W64_pos)
  have hcl : c < 2 ^ r := by
    rw [hc, Nat.div_lt_iff_lt_mul (Nat.pow_pos W64_pos), Nat.mul_comm (2 ^ r)]
    exact Nat.mul_lt_mul_of_pos_right hi (Nat.two_pow_pos r)
  have hz : z * 2 ^ r = W64 ^ i * c + y := by rw [hc, hy]; exact (Nat.div_add_mod _ _).symm
  have h1 : z * (W64 ^ L * 2 ^ r) = W64 ^ (L + i) * c + W64 ^ L * y := by
    calc z * (W64 ^ L * 2 ^ r) = W64 ^ L * (z * 2 ^ r) := by ac_rfl
      _ = _ := by rw [hz, Nat.mul_add, hp, Nat.mul_assoc]
  have h2 : (W64 ^ i * x + z) * (W64 ^ L * 2 ^ r) = W64 ^ (L + i) * (c + x * 2 ^ r) + W64 ^ L * y := by
    rw [Nat.add_mul, h1, Nat.mul_add, hp, ← Nat.add_assoc]
    congr 1
    rw [Nat.add_comm]
    congr 1
    ac_rfl
  have hy2 : W64 ^ L * y < W64 ^ (L + i) := by rw [hp]; exact Nat.mul_lt_mul_of_pos_left hyl (Nat.pow_pos W64_pos)
  have hrW : 2 ^ r ≤ W64 := by rw [W64_eq]; exact Nat.pow_le_pow_right (by omega) (by omega)
  have hcW : c < W64 := Nat.lt_of_lt_of_le hcl hrW
  rw [h1, h2, el_pad_at (by omega) hy2, Nat.mod_eq_of_lt hcW]
  refine ⟨hcl, ?_⟩
  -- the new limbs
  have hs := W_split (r := r) (by omega)
  have hm : x * 2 ^ r % W64 = 2 ^ r * (x % 2 ^ (64 - r)) := by
    rw [hs, Nat.mul_comm x, Nat.mul_mod_mul_left]
  have hm2 : c + x * 2 ^ r % W64 < W64 := by
    have h3 : x % 2 ^ (64 - r) + 1 ≤ 2 ^ (64 - r) := Nat.mod_lt _ (Nat.two_pow_pos _)
    have h4 := Nat.mul_le_mul_left (2 ^ r) h3
    rw [← hs, Nat.mul_add] at h4
    rw [hm]; omega
  have hd1 : (c + x * 2 ^ r) % W64 = c + x * 2 ^ r % W64 := by
    rw [Nat.add_mod, Nat.mod_eq_of_lt hcW, Nat.mod_eq_of_lt hm2]
  have hd2 : (c + x * 2 ^ r) / W64 = x / 2 ^ (64 - r) := by
    have h5 : x * 2 ^ r / W64 = x / 2 ^ (64 - r) := by
      rw [hs, Nat.mul_comm x, Nat.mul_div_mul_left _ _ (Nat.two_pow_pos r)]
    have h6 := Nat.div_add_mod (x * 2 ^ r) W64
    rw [← h6, ← Nat.add_assoc, Nat.add_comm c, Nat.add_assoc, Nat.mul_add_div W64_pos, Nat.div_eq_of_lt hm2, Nat.add_zero, h5]
  rw [← hd1, ← hd2]
  refine pad_step hM hy2 hcW ?_
  have h7 : (x + 1) * 2 ^ r ≤ W64 * W64 := Nat.mul_le_mul hx hrW
  have h8 : (x + 1) * 2 ^ r = x * 2 ^ r + 2 ^ r := by rw [Nat.add_mul, Nat.one_mul]
  omega
theorem or_shl (c x r : Nat) (hc : c < 2 ^ r) (hr : r < 64) :
    bits BinOp.or IntKind.u64 (c : Int) (IntKind.u64.wrap ((x : Int) * 2 ^ r)) = ((c + x * 2 ^ r % W64 : Nat) : Int) := by
  have e2 : IntKind.u64.wrap ((x : Int) * 2 ^ r) = ((x * 2 ^ r % W64 : Nat) : Int) := by
    rw [IntKind.wrap_u64, W64_eq]
    have e4 : (2 : Int) ^ r = ((2 ^ r : Nat) : Int) := by simp
    rw [e4, ← Int.natCast_mul]
    have e5 : (18446744073709551616 : Int) = ((18446744073709551616 : Nat) : Int) := rfl
    rw [e5, ← Int.natCast_emod]
  have h2 : c < 18446744073709551616 := Nat.lt_of_lt_of_le hc (Nat.pow_le_pow_right (n := 2) (by omega) (show r ≤ 64 by omega))
  have h3 : x * 2 ^ r % W64 < 18446744073709551616 := by
    have := Nat.mod_lt (x * 2 ^ r) W64_pos
    rwa [W64_eq] at this ⊢
  have hm : x * 2 ^ r % W64 = 2 ^ r * (x % 2 ^ (64 - r)) := by
    rw [W_split (r := r) (by omega), Nat.mul_comm x, Nat.mul_mod_mul_left]
  rw [e2, bits_or_u64_nat _ _ h2 h3, hm, Nat.or_comm, ← Nat.two_pow_add_eq_or_of_lt hc, Nat.add_comm]
theorem shr_two (x r : Nat) (hr : r < 64) : ((x : Int) / 2) / 2 ^ (63 - r) = ((x / 2 ^ (64 - r) : Nat) : Int) := by
  have hp : 2 ^ (64 - r) = 2 * 2 ^ (63 - r) := by rw [← Nat.pow_succ']; congr 1; omega
  rw [hp, ← Nat.div_div_eq_div_mul]
  simp
/-- The carry into limb i of a + b. -/
def car (a b i : Nat) : Nat := (a % W64 ^ i + b % W64 ^ i) / W64 ^ i
theorem car_zero (a b : Nat) : car a b 0 = 0 := by simp [car, Nat.mod_one]
theorem car_le (a b i : Nat) : car a b i ≤ 1 := by
  have h1 := Nat.mod_lt a (Nat.pow_pos W64_pos (n := i))
  have h2 := Nat.mod_lt b (Nat.pow_pos W64_pos (n := i))
  have : car a b i < 2 := by
    unfold car
    rw [Nat.div_lt_iff_lt_mul (Nat.pow_pos W64_pos)]; omega
  omega
theorem add_low (a b i : Nat) : (a + b) / W64 ^ i = a / W64 ^ i + b / W64 ^ i + car a b i := by
  have hp := Nat.pow_pos W64_pos (n := i)
  have h1 := Nat.div_add_mod a (W64 ^ i)
  have h2 := Nat.div_add_mod b (W64 ^ i)
  unfold car
  conv => lhs; rw [← h1, ← h2]
  have e : W64 ^ i * (a / W64 ^ i) + a % W64 ^ i + (W64 ^ i * (b / W64 ^ i) + b % W64 ^ i) = W64 ^ i * (a / W64 ^ i + b / W64 ^ i) + (a % W64 ^ i + b % W64 ^ i) := by rw [Nat.mul_add]; omega
  rw [e, Nat.mul_add_div hp]
theorem car_succ (a b i : Nat) : car a b (i + 1) = (a / W64 ^ i % W64 + b / W64 ^ i % W64 + car a b i) / W64 := by
  have h1 := add_low a b (i + 1)
  have h2 := add_low a b i
  have e : ∀ z, z / W64 ^ (i + 1) = z / W64 ^ i / W64 := fun z => by rw [Nat.pow_succ, Nat.div_div_eq_div_mul]
  rw [e, e, e, h2] at h1
  generalize a / W64 ^ i = x at *
  generalize b / W64 ^ i = y at *
  generalize car a b i = c at *
  have hx := Nat.div_add_mod x W64
  have hy := Nat.div_add_mod y W64
  have e2 : x + y + c = W64 * (x / W64 + y / W64) + (x % W64 + y % W64 + c) := by rw [Nat.mul_add]; omega
  rw [e2, Nat.mul_add_div W64_pos] at h1
  omega
theorem add_limb (a b i : Nat) : (a / W64 ^ i % W64 + b / W64 ^ i % W64 + car a b i) % W64 = (a + b) / W64 ^ i % W64 := by
  rw [add_low, Nat.add_mod (a / W64 ^ i + b / W64 ^ i), Nat.add_mod (a / W64 ^ i), Nat.mod_add_mod, Nat.add_mod_mod]
theorem car_top {a b n : Nat} (ha : a < W64 ^ n) (hb : b < W64 ^ n) : car a b n = (a + b) / W64 ^ n % W64 := by
  have h := car_le a b n
  have hp := Nat.pow_pos W64_pos (n := n)
  rw [add_low, Nat.div_eq_of_lt ha, Nat.div_eq_of_lt hb, Nat.zero_add]
  exact (Nat.mod_eq_of_lt (by rw [W64_eq]; omega)).symm
theorem add_word (a b k : Nat) : (a / W64 ^ k % W64 + b / W64 ^ k % W64 + car a b k) % 18446744073709551616 = (a + b) / W64 ^ k % W64 ∧ (a / W64 ^ k % W64 + b / W64 ^ k % W64 + car a b k) / 18446744073709551616 = car a b (k + 1) := by
  rw [car_succ, ← add_limb, W64_num]; exact ⟨rfl, rfl⟩
end Go.Proofs.YtooehlneoboenaaGreatDoor
