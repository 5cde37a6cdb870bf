/- Plain facts: hexadecimal digits as limbs. · Plain facts: a product and a sum, limb by limb, in the memory of what is reached. No program in sight. · Plain facts: a difference, limb by limb; long division by one limb of the divisor. No program in sight. · Plain facts: a product by three products of halves; cuts. No program in sight. · Plain facts: long division, limb by limb from above; a stretch of a block. No program in sight. · Plain facts: one digit of a division of three half words by two (math/bits.Div64). No program in sight. -/
import Derived.Test.YtibjogbalmbeeaaGreatDoorU01

namespace Go.Proofs.YtibjogbalmbeeaaGreatDoor

/-- The value of a hexadecimal digit. -/
def hexV (c : UInt8) : Nat := if c.toNat ≤ 57 then c.toNat - 48 else if 97 ≤ c.toNat then c.toNat - 97 + 10 else c.toNat - 65 + 10
/-- The value of the last k digits of n that f tells. -/
def hv (f : Nat → UInt8) (n : Nat) : Nat → Nat
  | 0 => 0
  | k + 1 => hv f n k + hexV (f (n - 1 - k)) * 16 ^ k
end Go.Proofs.YtibjogbalmbeeaaGreatDoor

namespace Go.Proofs.YtibjogbalmbeeaaGreatDoor

/-- The limbs of x below the place k, those of y from there on. -/
def mix (m k x y : Nat) : List Nat := pad k x ++ (pad m y).drop k
theorem mix_length {m k x y : Nat} (h : k ≤ m) : (mix m k x y).length = m := by simp [mix, pad_length]; omega
theorem el_drop (l : List Nat) (k j : Nat) : el (l.drop k) j = el l (k + j) := by simp [el, List.getD_eq_getElem?_getD, List.getElem?_drop]
theorem el_app_left {l r : List Nat} {j : Nat} (h : j < l.length) : el (l ++ r) j = el l j := by simp [el, List.getD_eq_getElem?_getD, List.getElem?_append_left h]
theorem el_app_right {l r : List Nat} {j : Nat} (h : l.length ≤ j) : el (l ++ r) j = el r (j - l.length) := by simp [el, List.getD_eq_getElem?_getD, List.getElem?_append_right h]
theorem el_mix {m k x y j : Nat} (hj : j < m) : el (mix m k x y) j = if j < k then x / W64 ^ j % W64 else y / W64 ^ j % W64 := by
  unfold mix
  by_cases h : j < k
  · rw [if_pos h, el_app_left (by rw [pad_length]; exact h), el_pad h]
  · rw [if_neg h, el_app_right (by rw [pad_length]; omega), pad_length, el_drop, show k + (j - k) = j by omega, el_pad hj]
theorem mix_zero (m x y : Nat) : mix m 0 x y = pad m y := by simp [mix, pad]
theorem mix_ext {m k x y : Nat} {l : List Nat} (hk : k ≤ m) (hl : l.length = m) (h : ∀ j, j < m → el l j = if j < k then x / W64 ^ j % W64 else y / W64 ^ j % W64) : l = mix m k x y := by
  apply list_ext (by rw [hl, mix_length hk])
  intro j hj
  rw [hl] at hj
  rw [h j hj, el_mix hj]
theorem mix_full (m x y : Nat) : mix m m x y = pad m x := by
  symm
  refine mix_ext (Nat.le_refl _) (pad_length _ _) (fun j hj => ?_)
  rw [if_pos hj, el_pad hj]
theorem mix_set {m k x y : Nat} (h : k < m) : (mix m k x y).set k (x / W64 ^ k % W64) = mix m (k + 1) x y := by
  refine mix_ext (by omega) (by rw [List.length_set, mix_length (by omega)]) (fun j hj => ?_)
  rw [el_set (by rw [mix_length (by omega)]; exact h), el_mix hj]
  by_cases h1 : j = k
  · subst h1; rw [if_pos rfl, if_pos (by omega)]
  · rw [if_neg h1]
    by_cases h2 : j < k
    · rw [if_pos h2, if_pos (by omega)]
    · rw [if_neg h2, if_neg (by omega)]
theorem div_pow_same {x y k j : Nat} (h : x / W64 ^ k = y / W64 ^ k) (hj : k ≤ j) : x / W64 ^ j = y / W64 ^ j := by
  obtain ⟨q, rfl⟩ : ∃ q, j = k + q := ⟨j - k, by omega⟩
  rw [Nat.pow_add, ← Nat.div_div_eq_div_mul, ← Nat.div_div_eq_div_mul, h]
theorem mix_eq {m k x y : Nat} (hk : k ≤ m) (h : x / W64 ^ k = y / W64 ^ k) : mix m k x y = pad m x := by
  symm
  refine mix_ext hk (pad_length _ _) (fun j hj => ?_)
  rw [el_pad hj]
  by_cases h1 : j < k
  · rw [if_pos h1]
  · rw [if_neg h1, div_pow_same h (by omega)]

/-- The carry of Y + A * d below the place i. -/
def mc (Y A d i : Nat) : Nat := (Y % W64 ^ i + A % W64 ^ i * d) / W64 ^ i
theorem mc_zero (Y A d : Nat) : mc Y A d 0 = 0 := by simp [mc, Nat.mod_one]
theorem mc_step (Y A d i : Nat) :
    (Y + A * d) / W64 ^ i % W64 = (Y / W64 ^ i % W64 + A / W64 ^ i % W64 * d + mc Y A d i) % W64 ∧
    mc Y A d (i + 1) = (Y / W64 ^ i % W64 + A / W64 ^ i % W64 * d + mc Y A d i) / W64 := by
  have hp : 0 < W64 ^ i := Nat.pow_pos W64_pos
  have e1 := mod_pow_succ Y i
  have e2 := mod_pow_succ A i
  have hV : Y % W64 ^ (i + 1) + A % W64 ^ (i + 1) * d = W64 ^ i * (Y / W64 ^ i % W64 + A / W64 ^ i % W64 * d) + (Y % W64 ^ i + A % W64 ^ i * d) := by
    rw [e1, e2, Nat.add_mul, Nat.mul_add, Nat.mul_assoc]; omega
  have hq : (Y % W64 ^ (i + 1) + A % W64 ^ (i + 1) * d) / W64 ^ i = Y / W64 ^ i % W64 + A / W64 ^ i % W64 * d + mc Y A d i := by
    rw [hV, Nat.mul_add_div hp]; rfl
  refine ⟨?_, ?_⟩
  · have h1 := Nat.div_add_mod Y (W64 ^ (i + 1))
    have h2 := Nat.div_add_mod A (W64 ^ (i + 1))
    have h3 : Y + A * d = W64 ^ i * (W64 * (Y / W64 ^ (i + 1) + A / W64 ^ (i + 1) * d)) + (Y % W64 ^ (i + 1) + A % W64 ^ (i + 1) * d) := by
      conv => lhs; rw [← h1, ← h2]
      rw [Nat.add_mul, Nat.pow_succ, Nat.mul_add, Nat.mul_add]
      generalize Y / (W64 ^ i * W64) = y
      generalize A / (W64 ^ i * W64) = a
      generalize Y % (W64 ^ i * W64) = y'
      generalize A % (W64 ^ i * W64) = a'
      have e3 : W64 ^ i * W64 * a * d = W64 ^ i * (W64 * (a * d)) := by ac_rfl
      have e4 : W64 ^ i * W64 * y = W64 ^ i * (W64 * y) := by ac_rfl
      rw [e3, e4]; omega
    rw [h3, Nat.mul_add_div hp, hq, Nat.add_comm, Nat.add_mul_mod_self_left]
  · rw [← hq, Nat.div_div_eq_div_mul, ← Nat.pow_succ]; rfl
theorem mc_lt (Y A d i : Nat) (hd : d < W64) : mc Y A d i < W64 := by
  have hp : 0 < W64 ^ i := Nat.pow_pos W64_pos
  unfold mc
  rw [Nat.div_lt_iff_lt_mul hp]
  have h1 := Nat.mod_lt Y hp
  have h2 := Nat.mod_lt A hp
  have h3 : A % W64 ^ i * d ≤ (W64 ^ i - 1) * (W64 - 1) := Nat.mul_le_mul (by omega) (by omega)
  have h4 : (W64 ^ i - 1) * (W64 - 1) + (W64 ^ i - 1) = (W64 ^ i - 1) * W64 := by
    rw [← Nat.mul_succ]; congr 1; have := W64_pos; omega
  have h5 : (W64 ^ i - 1) * W64 + W64 = W64 ^ i * W64 := by
    rw [← Nat.succ_mul]; congr 1; omega
  have hW := W64_pos
  rw [Nat.mul_comm W64]
  omega
theorem mc_le_one (Y A i : Nat) : mc Y A 1 i ≤ 1 := by
  have hp : 0 < W64 ^ i := Nat.pow_pos W64_pos
  have h1 := Nat.mod_lt Y hp
  have h2 := Nat.mod_lt A hp
  have : mc Y A 1 i < 2 := by unfold mc; rw [Nat.div_lt_iff_lt_mul hp]; omega
  omega
/-- The word's product and two sums of one round. -/
theorem mac_words (z a d c : Nat) (hz : z < W64) (ha : a < W64) (hd : d < W64) (hc : c < W64) :
    (a * d / W64 + (a * d % W64 + c) / W64 < W64) ∧ (a * d / W64 + (a * d % W64 + c) / W64 + (z + (a * d % W64 + c) % W64) / W64 < W64) ∧
    (z + (a * d % W64 + c) % W64) % W64 = (z + a * d + c) % W64 ∧
    a * d / W64 + (a * d % W64 + c) / W64 + (z + (a * d % W64 + c) % W64) / W64 = (z + a * d + c) / W64 := by
  have hW := W64_pos
  have h1 := Nat.div_add_mod (a * d) W64
  have h2 := Nat.div_add_mod (a * d % W64 + c) W64
  have h3 := Nat.div_add_mod (z + (a * d % W64 + c) % W64) W64
  have m3 := Nat.mod_lt (z + (a * d % W64 + c) % W64) hW
  have hb : a * d ≤ (W64 - 1) * (W64 - 1) := Nat.mul_le_mul (by omega) (by omega)
  have hb2 : (W64 - 1) * (W64 - 1) + (W64 - 1) + (W64 - 1) + 1 = W64 * W64 := by
    have e : (W64 - 1) * (W64 - 1) + (W64 - 1) = (W64 - 1) * W64 := by rw [← Nat.mul_succ]; congr 1; omega
    have e2 : (W64 - 1) * W64 + W64 = W64 * W64 := by rw [← Nat.succ_mul]; congr 1; omega
    omega
  generalize a * d = p at *
  generalize p % W64 = p0 at *
  generalize p / W64 = p1 at *
  generalize (p0 + c) / W64 = q1 at *
  generalize (p0 + c) % W64 = q0 at *
  generalize (z + q0) / W64 = s1 at *
  generalize (z + q0) % W64 = s0 at *
  have key : z + p + c = W64 * (p1 + q1 + s1) + s0 := by rw [Nat.mul_add, Nat.mul_add]; omega
  have hT : W64 * (p1 + q1 + s1) < W64 * W64 := by omega
  have hT2 : p1 + q1 + s1 < W64 := Nat.lt_of_mul_lt_mul_left hT
  refine ⟨by omega, hT2, ?_, ?_⟩
  · rw [key, Nat.mul_add_mod, Nat.mod_eq_of_lt m3]
  · rw [key, Nat.mul_add_div hW, Nat.div_eq_of_lt m3, Nat.add_zero]
/-- X + W^j * (A * d): its limbs below j are X's; the others are those of X / W^j + A * d. -/
theorem acc_low {X j T t : Nat} (h : t < j) : (X + W64 ^ j * T) / W64 ^ t % W64 = X / W64 ^ t % W64 := by
  obtain ⟨q, rfl⟩ : ∃ q, j = t + (q + 1) := ⟨j - t - 1, by omega⟩
  rw [Nat.add_comm, Nat.pow_add, Nat.mul_assoc, Nat.mul_add_div (Nat.pow_pos W64_pos), Nat.pow_succ, Nat.mul_comm (W64 ^ q), Nat.mul_assoc, Nat.add_comm, Nat.add_mul_mod_self_left]
theorem acc_high (X j T i : Nat) : (X + W64 ^ j * T) / W64 ^ (j + i) = (X / W64 ^ j + T) / W64 ^ i := by
  rw [Nat.pow_add, ← Nat.div_div_eq_div_mul, Nat.add_mul_div_left _ _ (Nat.pow_pos W64_pos)]
/-- A row's start: below j nothing turns. -/
theorem mix_start {m j X T : Nat} (hj : j ≤ m) : mix m j (X + W64 ^ j * T) X = pad m X := by
  symm
  refine mix_ext hj (pad_length _ _) (fun t ht => ?_)
  rw [el_pad ht]
  by_cases h : t < j
  · rw [if_pos h, acc_low h]
  · rw [if_neg h]
/-- A row's end: the last carry goes where X has nothing. -/
theorem row_end {m j n X A d : Nat} (hm : j + n < m) (hX : X < W64 ^ (j + n)) (hA : A < W64 ^ n) (hd : d < W64) :
    (mix m (j + n) (X + W64 ^ j * (A * d)) X).set (j + n) (mc (X / W64 ^ j) A d n) = pad m (X + W64 ^ j * (A * d)) ∧ X + W64 ^ j * (A * d) < W64 ^ (j + n + 1) := by
  have hp : 0 < W64 ^ n := Nat.pow_pos W64_pos
  have hY : X / W64 ^ j < W64 ^ n := by rw [Nat.div_lt_iff_lt_mul (Nat.pow_pos W64_pos), Nat.mul_comm, ← Nat.pow_add]; exact hX
  have hc : mc (X / W64 ^ j) A d n = (X / W64 ^ j + A * d) / W64 ^ n := by unfold mc; rw [Nat.mod_eq_of_lt hY, Nat.mod_eq_of_lt hA]
  have hcl := mc_lt (X / W64 ^ j) A d n hd
  have h1 : (X + W64 ^ j * (A * d)) / W64 ^ (j + n) = mc (X / W64 ^ j) A d n := by rw [acc_high, hc]
  have h2 : (X + W64 ^ j * (A * d)) / W64 ^ (j + n) % W64 = mc (X / W64 ^ j) A d n := by rw [h1, Nat.mod_eq_of_lt hcl]
  have h3 : X + W64 ^ j * (A * d) < W64 ^ (j + n + 1) := by
    rw [Nat.pow_succ, Nat.mul_comm (W64 ^ (j + n))]
    exact (Nat.div_lt_iff_lt_mul (Nat.pow_pos W64_pos)).1 (by rw [h1]; exact hcl)
  refine ⟨?_, h3⟩
  rw [← h2, mix_set hm]
  refine mix_eq (by omega) ?_
  rw [Nat.div_eq_of_lt h3, Nat.div_eq_of_lt (Nat.lt_of_lt_of_le hX (Nat.pow_le_pow_right W64_pos (by omega)))]
/-- The carry of a sum is spent. -/
theorem sum_end {m at' i X B : Nat} (hm : at' + i ≤ m) (hB : B < W64 ^ i) (hc : mc (X / W64 ^ at') B 1 i = 0) :
    mix m (at' + i) (X + W64 ^ at' * B) X = pad m (X + W64 ^ at' * B) := by
  refine mix_eq hm ?_
  have hp : 0 < W64 ^ i := Nat.pow_pos W64_pos
  rw [acc_high, Nat.pow_add, ← Nat.div_div_eq_div_mul]
  generalize X / W64 ^ at' = Y at *
  unfold mc at hc
  rw [Nat.mod_eq_of_lt hB, Nat.mul_one] at hc
  have h1 : Y % W64 ^ i + B < W64 ^ i := (Nat.div_eq_zero_iff.1 hc).resolve_left (by omega)
  conv => lhs; rw [← Nat.div_add_mod Y (W64 ^ i), Nat.add_assoc, Nat.mul_add_div hp, Nat.div_eq_of_lt h1, Nat.add_zero]
/-- A carry stands: the sum goes on. -/
theorem sum_more {m at' i X B : Nat} (hB : B < W64 ^ i) (hX : X + W64 ^ at' * B < W64 ^ m) (hm : at' + i ≤ m) (hc : mc (X / W64 ^ at') B 1 i ≠ 0) : at' + i < m := by
  refine Nat.lt_of_le_of_ne hm fun e => hc ?_
  have hp : 0 < W64 ^ i := Nat.pow_pos W64_pos
  have h1 : X / W64 ^ at' + B < W64 ^ i := by
    have h2 := acc_high X at' B 0
    simp only [Nat.add_zero, Nat.pow_zero, Nat.div_one] at h2
    rw [← h2, Nat.div_lt_iff_lt_mul (Nat.pow_pos W64_pos), Nat.mul_comm (W64 ^ i), ← Nat.pow_add, e]
    exact hX
  unfold mc
  rw [Nat.mod_eq_of_lt hB, Nat.mul_one, Nat.mod_eq_of_lt (by omega)]
  exact Nat.div_eq_of_lt h1
end Go.Proofs.YtibjogbalmbeeaaGreatDoor

namespace Go.Proofs.YtibjogbalmbeeaaGreatDoor

/-- Sub64 undoes a round of a sum: x is what stands there, x' what comes, p what is taken. -/
theorem sub_words (x' p c : Nat) (hx : x' < W64) (hp : p < W64) (hc : c ≤ 1) :
    ((x' + p + c) % W64 + W64 - p - c) % W64 = x' ∧ (if (x' + p + c) % W64 < p + c then 1 else 0) = (x' + p + c) / W64 := by
  have hW : 2 ≤ W64 := by rw [W64_num]; omega
  have h1 := Nat.div_add_mod (x' + p + c) W64
  have h2 := Nat.mod_lt (x' + p + c) W64_pos
  have h3 : (x' + p + c) / W64 = 0 ∨ (x' + p + c) / W64 = 1 := by
    have h4 : (x' + p + c) / W64 < 2 := by rw [Nat.div_lt_iff_lt_mul W64_pos]; omega
    generalize (x' + p + c) / W64 = q at h4
    omega
  rcases h3 with h | h
  · rw [h] at h1 ⊢
    simp only [Nat.mul_zero, Nat.zero_add] at h1
    rw [h1]
    refine ⟨?_, by rw [if_neg (by omega)]⟩
    rw [show x' + p + c + W64 - p - c = x' + W64 by omega, Nat.add_mod_right, Nat.mod_eq_of_lt hx]
  · rw [h] at h1 ⊢
    simp only [Nat.mul_one] at h1
    generalize (x' + p + c) % W64 = r at *
    refine ⟨?_, by rw [if_pos (by omega)]⟩
    rw [show r + W64 - p - c = x' by omega, Nat.mod_eq_of_lt hx]
/-- A round of the difference of X' + P: its limb i, and the debt. -/
theorem sub_step (X' P i : Nat) :
    ((X' + P) / W64 ^ i % W64 + W64 - P / W64 ^ i % W64 - car X' P i) % W64 = X' / W64 ^ i % W64 ∧
    (if (X' + P) / W64 ^ i % W64 < P / W64 ^ i % W64 + car X' P i then 1 else 0) = car X' P (i + 1) := by
  have h := add_word X' P i
  rw [← W64_num] at h
  have h1 := sub_words (X' / W64 ^ i % W64) (P / W64 ^ i % W64) (car X' P i) (Nat.mod_lt _ W64_pos) (Nat.mod_lt _ W64_pos) (car_le X' P i)
  rw [h.1, h.2] at h1
  exact h1
/-- Nothing is owed at a difference's end. -/
theorem sub_end {X' P n : Nat} (hP : P < W64 ^ n) (hc : car X' P n = 0) : X' / W64 ^ n = (X' + P) / W64 ^ n := by
  have hp : 0 < W64 ^ n := Nat.pow_pos W64_pos
  unfold car at hc
  rw [Nat.mod_eq_of_lt hP] at hc
  have h1 : X' % W64 ^ n + P < W64 ^ n := (Nat.div_eq_zero_iff.1 hc).resolve_left (by omega)
  conv => rhs; rw [← Nat.div_add_mod X' (W64 ^ n), Nat.add_assoc, Nat.mul_add_div hp, Nat.div_eq_of_lt h1, Nat.add_zero]
theorem sub_more {X' P n m : Nat} (hP : P < W64 ^ n) (hX : X' + P < W64 ^ m) (hm : n ≤ m) (hc : car X' P n ≠ 0) : n < m := by
  refine Nat.lt_of_le_of_ne hm fun e => hc ?_
  subst e
  unfold car
  rw [Nat.mod_eq_of_lt hP, Nat.mod_eq_of_lt (by omega)]
  exact Nat.div_eq_of_lt hX
/-- The product's limb of one round, and its carry (mc at nought). -/
theorem mul_step (A d i : Nat) : (A * d) / W64 ^ i % W64 = (A / W64 ^ i % W64 * d + mc 0 A d i) % W64 ∧ mc 0 A d (i + 1) = (A / W64 ^ i % W64 * d + mc 0 A d i) / W64 := by
  have h := mc_step 0 A d i
  simp only [Nat.zero_add, Nat.zero_div, Nat.zero_mod] at h
  exact h
theorem mul_words (a d c : Nat) (ha : a < W64) (hd : d < W64) (hc : c < W64) :
    (a * d % W64 + c) % W64 = (a * d + c) % W64 ∧ a * d / W64 + (a * d % W64 + c) / W64 = (a * d + c) / W64 ∧ a * d / W64 + (a * d % W64 + c) / W64 < W64 := by
  have h := mac_words 0 a d c W64_pos ha hd hc
  have h1 : (0 + (a * d % W64 + c) % W64) / W64 = 0 := by rw [Nat.zero_add]; exact Nat.div_eq_of_lt (Nat.mod_lt _ W64_pos)
  have h2 : (0 + (a * d % W64 + c) % W64) % W64 = (a * d % W64 + c) % W64 := by rw [Nat.zero_add, Nat.mod_mod]
  rw [h1, h2, Nat.add_zero, Nat.zero_add] at h
  exact ⟨h.2.2.1, h.2.2.2, h.1⟩
/-- The trial digit is not below the right one. -/
theorem trial_le {R V W hi lo d low vlow p : Nat} (hR : R = (hi * W + lo) * p + low) (hV : V = d * p + vlow) (hp : 0 < p) (hlow : low < p) (hd : 0 < d) (hW : 0 < W) (hRV : R < W * V) :
    R / V ≤ if d ≤ hi then W - 1 else (hi * W + lo) / d := by
  have hV0 : 0 < V := by rw [hV]; exact Nat.add_pos_left (Nat.mul_pos hd hp) _
  split
  · have : R / V < W := by rw [Nat.div_lt_iff_lt_mul hV0]; exact hRV
    omega
  · have h1 : R / V ≤ R / (d * p) := Nat.div_le_div_left (by rw [hV]; omega) (Nat.mul_pos hd hp)
    have h2 : R / (d * p) = (hi * W + lo) / d := by
      rw [Nat.mul_comm d, ← Nat.div_div_eq_div_mul, hR, Nat.mul_comm _ p, Nat.mul_add_div hp, Nat.div_eq_of_lt hlow, Nat.add_zero]
    omega
end Go.Proofs.YtibjogbalmbeeaaGreatDoor

namespace Go.Proofs.YtibjogbalmbeeaaGreatDoor

theorem halves_mid (a0 a1 b0 b1 : Nat) : (a0 + a1) * (b0 + b1) - a0 * b0 - a1 * b1 = a0 * b1 + a1 * b0 ∧ a0 * b0 ≤ (a0 + a1) * (b0 + b1) ∧ a1 * b1 ≤ (a0 + a1) * (b0 + b1) - a0 * b0 := by
  have h : (a0 + a1) * (b0 + b1) = a0 * b0 + (a0 * b1 + a1 * b0) + a1 * b1 := by
    rw [Nat.add_mul, Nat.mul_add, Nat.mul_add]; omega
  rw [h]; omega
theorem halves_all (P a0 a1 b0 b1 : Nat) : (a0 + P * a1) * (b0 + P * b1) = a0 * b0 + P * (a0 * b1 + a1 * b0) + P * P * (a1 * b1) := by
  rw [Nat.add_mul, Nat.mul_add, Nat.mul_add, Nat.mul_add]
  have e1 : a0 * (P * b1) = P * (a0 * b1) := by ac_rfl
  have e2 : P * a1 * b0 = P * (a1 * b0) := by ac_rfl
  have e3 : P * a1 * (P * b1) = P * P * (a1 * b1) := by ac_rfl
  rw [e1, e2, e3]; omega
theorem cut_sum (a k : Nat) : a % W64 ^ k + W64 ^ k * (a / W64 ^ k) = a := Nat.mod_add_div a (W64 ^ k)
theorem toL_drop (a k : Nat) : (toL a).drop k = toL (a / W64 ^ k) := by
  apply list_ext
  · rw [List.length_drop]
    apply Nat.le_antisymm
    · refine Nat.sub_le_iff_le_add.2 ((toL_length_le a _).2 ?_)
      have h := (toL_length_le (a / W64 ^ k) (toL (a / W64 ^ k)).length).1 (Nat.le_refl _)
      rw [Nat.div_lt_iff_lt_mul (Nat.pow_pos W64_pos), ← Nat.pow_add] at h
      exact h
    · refine (toL_length_le _ _).2 ?_
      have h := (toL_length_le a (toL a).length).1 (Nat.le_refl _)
      by_cases hk : k ≤ (toL a).length
      · rw [Nat.div_lt_iff_lt_mul (Nat.pow_pos W64_pos), ← Nat.pow_add, Nat.sub_add_cancel hk]; exact h
      · rw [Nat.sub_eq_zero_of_le (by omega), Nat.pow_zero, Nat.div_eq_of_lt (Nat.lt_of_lt_of_le h (Nat.pow_le_pow_right W64_pos (by omega)))]; exact Nat.one_pos
  · intro j _
    rw [el_drop, el_toL, el_toL, Nat.pow_add, Nat.div_div_eq_div_mul]
theorem vl_toL_take (a k : Nat) : vl ((toL a).take k) = a % W64 ^ k := by
  by_cases hk : k ≤ (toL a).length
  · have h : (toL a).take k = pad k a := by
      apply list_ext
      · rw [List.length_take, pad_length]; omega
      · intro j hj
        rw [List.length_take] at hj
        rw [el_take (by omega), el_toL, el_pad (by omega)]
    rw [h, vl_pad]
  · rw [List.take_of_length_le (by omega), vl_toL, Nat.mod_eq_of_lt]
    exact Nat.lt_of_lt_of_le ((toL_length_le a (toL a).length).1 (Nat.le_refl _)) (Nat.pow_le_pow_right W64_pos (by omega))
/-- What is added fits where it is added. -/
theorem fits_at {X B at' m : Nat} (h : X + W64 ^ at' * B < W64 ^ m) (hB : B ≠ 0) : at' + (toL B).length ≤ m := by
  have h1 : W64 ^ at' * B < W64 ^ m := by omega
  have hl : (toL B).length ≠ 0 := fun e => hB ((toL_length_zero B).1 e)
  have h2 : W64 ^ ((toL B).length - 1) ≤ B := by
    refine Nat.le_of_not_lt fun h => ?_
    have := (toL_length_le B ((toL B).length - 1)).2 h
    omega
  have h3 : W64 ^ (at' + ((toL B).length - 1)) < W64 ^ m := by
    rw [Nat.pow_add]; exact Nat.lt_of_le_of_lt (Nat.mul_le_mul_left _ h2) h1
  have h4 := (Nat.pow_lt_pow_iff_right (a := W64) (by rw [W64_num]; omega)).1 h3
  omega
theorem pad_zero_rep (m : Nat) : pad m 0 = List.replicate m 0 := by
  apply list_ext
  · rw [pad_length, List.length_replicate]
  · intro j hj
    rw [pad_length] at hj
    rw [el_pad hj, Nat.zero_div, Nat.zero_mod]
    simp [el, List.getD_eq_getElem?_getD, hj]
theorem pad_app {m p : Nat} (h : (toL p).length ≤ m) : pad m p = toL p ++ List.replicate (m - (toL p).length) 0 := by
  apply list_ext
  · rw [pad_length, List.length_append, List.length_replicate]; omega
  · intro j hj
    rw [pad_length] at hj
    rw [el_pad hj]
    by_cases h1 : j < (toL p).length
    · rw [el_app_left h1, el_toL]
    · rw [el_app_right (by omega), ← el_toL, el_out (by omega)]
      simp [el, List.getD_eq_getElem?_getD, List.getElem?_replicate]
      split <;> rfl
end Go.Proofs.YtibjogbalmbeeaaGreatDoor

namespace Go.Proofs.YtibjogbalmbeeaaGreatDoor

theorem pad_split (j k x : Nat) : pad (j + k) x = pad j x ++ pad k (x / W64 ^ j) := by
  apply list_ext
  · simp [pad_length]
  · intro t ht
    rw [pad_length] at ht
    rw [el_pad ht]
    by_cases h : t < j
    · rw [el_app_left (by rw [pad_length]; exact h), el_pad h]
    · rw [el_app_right (by rw [pad_length]; omega), pad_length, el_pad (by omega), Nat.div_div_eq_div_mul, ← Nat.pow_add, show j + (t - j) = t by omega]
theorem set_mid (pre x post : List Nat) (i v : Nat) (h : i < x.length) : (pre ++ (x ++ post)).set (pre.length + i) v = pre ++ (x.set i v ++ post) := by
  rw [List.set_append_right _ _ (by omega), Nat.add_sub_cancel_left, List.set_append_left _ _ h]
theorem el_mid (pre x post : List Nat) (i : Nat) (h : i < x.length) : el (pre ++ (x ++ post)) (pre.length + i) = el x i := by
  rw [el_app_right (by omega), Nat.add_sub_cancel_left, el_app_left h]
/-- One step of the division from above. -/
theorem long_step (U V j : Nat) (hV : 0 < V) :
    U % (W64 ^ j * V) = U % (W64 ^ (j + 1) * V) % W64 ^ j + W64 ^ j * (U % (W64 ^ (j + 1) * V) / W64 ^ j % V) ∧
    U / (W64 ^ j * V) = W64 * (U / (W64 ^ (j + 1) * V)) + U % (W64 ^ (j + 1) * V) / W64 ^ j / V ∧
    U % (W64 ^ (j + 1) * V) / W64 ^ j < W64 * V := by
  have hp := Nat.pow_pos W64_pos (n := j)
  have e : W64 ^ (j + 1) * V = W64 ^ j * V * W64 := by rw [Nat.pow_succ]; ac_rfl
  have h1 : U % (W64 ^ (j + 1) * V) % (W64 ^ j * V) = U % (W64 ^ j * V) := by rw [e]; exact Nat.mod_mul_right_mod U (W64 ^ j * V) W64
  refine ⟨?_, ?_, ?_⟩
  · rw [← h1, Nat.mod_mul]
  · rw [Nat.div_div_eq_div_mul, e]
    have h2 := Nat.div_add_mod U (W64 ^ j * V * W64)
    have hq : 0 < W64 ^ j * V := Nat.mul_pos hp hV
    conv => lhs; rw [← h2, Nat.mul_assoc, Nat.mul_add_div hq]
  · rw [Nat.div_lt_iff_lt_mul hp]
    have h3 := Nat.mod_lt U (show 0 < W64 ^ (j + 1) * V from Nat.mul_pos (Nat.pow_pos W64_pos) hV)
    have e2 : W64 * V * W64 ^ j = W64 ^ (j + 1) * V := by rw [Nat.pow_succ]; ac_rfl
    rw [e2]; exact h3
/-- A digit of the quotient goes in. -/
theorem quo_set {m j Q d : Nat} (hj : j < m) (hd : d < W64) : (pad m (W64 ^ (j + 1) * Q)).set j d = pad m (W64 ^ j * (W64 * Q + d)) := by
  have hp := Nat.pow_pos W64_pos (n := j)
  apply list_ext
  · simp [pad_length]
  · intro t ht
    simp only [List.length_set, pad_length] at ht
    rw [el_set (by rw [pad_length]; exact hj), el_pad ht, el_pad ht]
    have e : W64 ^ (j + 1) * Q = W64 ^ j * (W64 * Q) := by rw [Nat.pow_succ, Nat.mul_assoc]
    by_cases h1 : t = j
    · subst h1
      rw [if_pos rfl, Nat.mul_div_cancel_left _ hp, Nat.mul_add_mod, Nat.mod_eq_of_lt hd]
    · rw [if_neg h1, e]
      by_cases h2 : t < j
      · obtain ⟨q, rfl⟩ : ∃ q, j = t + (q + 1) := ⟨j - t - 1, by omega⟩
        have hz : ∀ z, W64 ^ (t + (q + 1)) * z / W64 ^ t % W64 = 0 := fun z => by
          rw [Nat.pow_add, Nat.mul_assoc, Nat.mul_div_cancel_left _ (Nat.pow_pos W64_pos), Nat.pow_succ, Nat.mul_comm (W64 ^ q), Nat.mul_assoc, Nat.mul_mod_right]
        rw [hz, hz]
      · obtain ⟨q, rfl⟩ : ∃ q, t = j + (q + 1) := ⟨t - j - 1, by omega⟩
        rw [Nat.pow_add, ← Nat.div_div_eq_div_mul, ← Nat.div_div_eq_div_mul, Nat.mul_div_cancel_left _ hp, Nat.mul_div_cancel_left _ hp, Nat.pow_succ, Nat.mul_comm (W64 ^ q), ← Nat.div_div_eq_div_mul, ← Nat.div_div_eq_div_mul, Nat.mul_div_cancel_left _ W64_pos, Nat.mul_add_div W64_pos, Nat.div_eq_of_lt hd, Nat.add_zero]
/-- What takeMul leaves and owes; what giveBack brings back. -/
theorem take_mul {R V w B : Nat} (hR : R < B) (hP : w * V ≤ B) : (R + (B - w * V)) % B + w * V = R + (if R < w * V then B else 0) := by
  by_cases h : R < w * V
  · rw [if_pos h, Nat.mod_eq_of_lt (by omega)]; omega
  · rw [if_neg h]
    have e : R + (B - w * V) = (R - w * V) + B := by omega
    rw [e, Nat.add_mod_right, Nat.mod_eq_of_lt (by omega)]; omega
end Go.Proofs.YtibjogbalmbeeaaGreatDoor

namespace Go.Proofs.YtibjogbalmbeeaaGreatDoor

/-- The estimate qh with its rest rh is not too great exactly if its product fits. -/
theorem dig_test {y y1 y0 un u1 qh rh B : Nat} (hy : y = y1 * B + y0) (hr : qh * y1 + rh = un) : qh * y0 ≤ B * rh + u1 ↔ qh * y ≤ un * B + u1 := by
  have e1 : qh * y = qh * y1 * B + qh * y0 := by rw [hy, Nat.mul_add, Nat.mul_assoc]
  have e2 : un * B = qh * y1 * B + B * rh := by rw [← hr, Nat.add_mul, Nat.mul_comm rh]
  rw [e1, e2]
  generalize qh * y1 * B = z
  omega
/-- The first estimate is not below the right digit, and at most one above B. -/
theorem dig_first {y y1 y0 un u1 B : Nat} (hy : y = y1 * B + y0) (hB : 0 < B) (h1 : B ≤ 2 * y1) (h0 : y0 < B) (hu1 : u1 < B) (hun : un < y) :
    (un * B + u1) / y ≤ un / y1 ∧ un / y1 ≤ B + 1 ∧ un / y1 * y1 + un % y1 = un ∧ un % y1 < y1 ∧ (un * B + u1) / y < B := by
  have hy1 : 0 < y1 := by omega
  have hy0 : 0 < y := by rw [hy]; exact Nat.add_pos_left (Nat.mul_pos hy1 hB) _
  refine ⟨?_, ?_, ?_, Nat.mod_lt _ hy1, ?_⟩
  · have a1 : (un * B + u1) / y ≤ (un * B + u1) / (y1 * B) := Nat.div_le_div_left (by omega) (Nat.mul_pos hy1 hB)
    have a2 : (un * B + u1) / (y1 * B) = un / y1 := by
      rw [Nat.mul_comm y1, ← Nat.div_div_eq_div_mul, Nat.mul_comm un, Nat.mul_add_div hB, Nat.div_eq_of_lt hu1, Nat.add_zero]
    omega
  · have a1 : un / y1 < B + 2 := by
      rw [Nat.div_lt_iff_lt_mul hy1, Nat.add_mul, Nat.mul_comm B]
      omega
    omega
  · rw [Nat.mul_comm]; exact Nat.div_add_mod un y1
  · rw [Nat.div_lt_iff_lt_mul hy0]
    have a1 : (un + 1) * B ≤ y * B := Nat.mul_le_mul_right _ hun
    rw [Nat.add_mul, Nat.one_mul] at a1
    rw [Nat.mul_comm B]
    omega
/-- The estimate stands: it is the digit. -/
theorem dig_done {y y1 y0 un u1 qh rh B : Nat} (hy : y = y1 * B + y0) (hy0 : 0 < y) (hr : qh * y1 + rh = un) (hge : (un * B + u1) / y ≤ qh) (ht : qh * y0 ≤ B * rh + u1) : qh = (un * B + u1) / y := by
  have h1 := (dig_test (u1 := u1) hy hr).1 ht
  exact Nat.le_antisymm ((Nat.le_div_iff_mul_le hy0).2 h1) hge
/-- The rest has grown past a half word: the estimate is the digit. -/
theorem dig_break {y y1 y0 un u1 qh rh B : Nat} (hy : y = y1 * B + y0) (hy0 : 0 < y) (h0 : y0 < B) (hr : qh * y1 + rh = un) (hge : (un * B + u1) / y ≤ qh) (hq : qh ≤ B) (hrh : B ≤ rh) : qh = (un * B + u1) / y := by
  refine dig_done hy hy0 hr hge ?_
  have a1 : qh * y0 ≤ B * B := Nat.mul_le_mul hq (Nat.le_of_lt h0)
  have a2 : B * B ≤ B * rh := Nat.mul_le_mul_left _ hrh
  omega
/-- The estimate is too great: one less is not below the digit. -/
theorem dig_down {y y1 y0 un u1 qh rh B : Nat} (hy : y = y1 * B + y0) (hy0 : 0 < y) (hr : qh * y1 + rh = un) (hd : (un * B + u1) / y < B) (hge : (un * B + u1) / y ≤ qh) (ht : B ≤ qh ∨ B * rh + u1 < qh * y0) :
    (un * B + u1) / y ≤ qh - 1 ∧ 1 ≤ qh ∧ (qh - 1) * y1 + (rh + y1) = un := by
  have h1 : (un * B + u1) / y < qh := by
    rcases ht with h | h
    · exact Nat.lt_of_lt_of_le hd h
    · have h2 : ¬ qh * y ≤ un * B + u1 := fun h3 => by have := (dig_test (u1 := u1) hy hr).2 h3; omega
      rw [Nat.div_lt_iff_lt_mul hy0]; omega
  have h0 : 1 ≤ qh := Nat.lt_of_le_of_lt (Nat.zero_le _) h1
  refine ⟨Nat.le_sub_one_of_lt h1, h0, ?_⟩
  obtain ⟨k, rfl⟩ : ∃ k, qh = k + 1 := ⟨qh - 1, by omega⟩
  rw [Nat.add_sub_cancel, ← hr, Nat.add_mul]; omega
/-- The words of Div64 behind the shift by s. -/
theorem div64_words {hi lo y s : Nat} (hh : hi < y) (hlo : lo < 2 ^ 64) (hs : s ≤ 63) (h1 : 2 ^ 63 ≤ y * 2 ^ s) (h2 : y * 2 ^ s < 2 ^ 64) :
    hi * 2 ^ s < 2 ^ 64 ∧ (hi * 2 ^ s ||| lo / 2 ^ (64 - s)) = hi * 2 ^ s + lo / 2 ^ (64 - s) ∧ hi * 2 ^ s + lo / 2 ^ (64 - s) < y * 2 ^ s ∧
    (hi * 2 ^ 64 + lo) * 2 ^ s = (hi * 2 ^ s + lo / 2 ^ (64 - s)) * 2 ^ 64 + lo * 2 ^ s % 2 ^ 64 := by
  have hp := Nat.two_pow_pos s
  have a1 : (hi + 1) * 2 ^ s ≤ y * 2 ^ s := Nat.mul_le_mul_right _ hh
  rw [Nat.add_mul, Nat.one_mul] at a1
  have e64 : 2 ^ (64 - s) * 2 ^ s = 2 ^ 64 := by rw [← Nat.pow_add]; congr 1; omega
  have a2 : lo / 2 ^ (64 - s) < 2 ^ s := by
    rw [Nat.div_lt_iff_lt_mul (Nat.two_pow_pos _), Nat.mul_comm, e64]; exact hlo
  have a3 : lo * 2 ^ s / 2 ^ 64 = lo / 2 ^ (64 - s) := by rw [← e64, Nat.mul_div_mul_right _ _ hp]
  have a4 := Nat.div_add_mod (lo * 2 ^ s) (2 ^ 64)
  rw [a3] at a4
  have a5 : hi * 2 ^ s ||| lo / 2 ^ (64 - s) = hi * 2 ^ s + lo / 2 ^ (64 - s) := by
    have := Nat.shiftLeft_add_eq_or_of_lt a2 hi
    rw [Nat.shiftLeft_eq] at this
    exact this.symm
  refine ⟨by omega, a5, by omega, ?_⟩
  rw [Nat.add_mul, Nat.add_mul, Nat.mul_right_comm]
  generalize lo / 2 ^ (64 - s) = z at *
  generalize hi * 2 ^ s = h at *
  generalize lo * 2 ^ s = l at *
  omega
theorem div64_end {A y s Q rr : Nat} (h : A * 2 ^ s = Q * (y * 2 ^ s) + rr) (hr : rr < y * 2 ^ s) : A / y = Q ∧ A % y = rr / 2 ^ s := by
  have hp := Nat.two_pow_pos s
  have hy : 0 < y * 2 ^ s := by omega
  have h1 : A * 2 ^ s / (y * 2 ^ s) = Q := by rw [h, Nat.mul_comm Q, Nat.mul_add_div hy, Nat.div_eq_of_lt hr, Nat.add_zero]
  have h2 : A * 2 ^ s % (y * 2 ^ s) = rr := by rw [h, Nat.mul_comm Q, Nat.mul_add_mod, Nat.mod_eq_of_lt hr]
  rw [Nat.mul_div_mul_right _ _ hp] at h1
  rw [Nat.mul_mod_mul_right] at h2
  exact ⟨h1, by rw [← h2, Nat.mul_div_cancel _ hp]⟩
theorem sum_two {B u t u1 u0 zz v z rr : Nat} (h3 : t = u1 * B + u0) (h2 : u * B + u1 = zz + v) (h1 : z + rr = v * B + u0) : u * (B * B) + t = zz * B + z + rr := by
  have e2 : (u * B + u1) * B = (zz + v) * B := by rw [h2]
  rw [Nat.add_mul, Nat.add_mul, Nat.mul_assoc] at e2
  rw [h3]
  generalize u * (B * B) = a at *
  generalize u1 * B = b at *
  generalize zz * B = c at *
  generalize v * B = d at *
  omega
theorem div64_sum {u t u1 u0 zz v z rr : Nat} (h3 : t = u1 * 4294967296 + u0) (h2 : u * 4294967296 + u1 = zz + v) (h1 : z + rr = v * 4294967296 + u0) : u * 18446744073709551616 + t = zz * 4294967296 + z + rr :=
  sum_two (B := 4294967296) h3 h2 h1
end Go.Proofs.YtibjogbalmbeeaaGreatDoor
