/- Plain facts: bit lengths and trailing noughts of naturals, and of their limbs. No program in sight. -/
import Derived.Test.YtooehlneoboenaaGreatDoorPa
import Derived.Lib.BitFns
import Derived.Lib.ItoaNum
import Derived.Lib.TrailingZeros
namespace Go.Proofs.YtooehlneoboenaaGreatDoor

/-- The bit length. -/
def blen (a : Nat) : Nat := if a = 0 then 0 else a.log2 + 1
theorem blen_zero : blen 0 = 0 := rfl
theorem blen_pos {a : Nat} (h : a ≠ 0) : 1 ≤ blen a := by unfold blen; rw [if_neg h]; omega
theorem blen_lo {a : Nat} (h : a ≠ 0) : 2 ^ (blen a - 1) ≤ a := by
  unfold blen; rw [if_neg h]; simp; exact Nat.log2_self_le h
theorem blen_hi (a : Nat) : a < 2 ^ blen a := by
  unfold blen
  by_cases h : a = 0
  · rw [if_pos h]; omega
  · rw [if_neg h]; exact Nat.lt_log2_self
theorem blen_of {a k : Nat} (h1 : 2 ^ k ≤ a) (h2 : a < 2 ^ (k + 1)) : blen a = k + 1 := by
  have h0 : a ≠ 0 := by have := Nat.two_pow_pos k; omega
  have a1 := blen_lo h0
  have a2 := blen_hi a
  have a3 := blen_pos h0
  have b1 : k < blen a := (Nat.pow_lt_pow_iff_right (a := 2) (by omega)).1 (by omega)
  have b2 : blen a - 1 < k + 1 := (Nat.pow_lt_pow_iff_right (a := 2) (by omega)).1 (by omega)
  omega
theorem blen_le {a k : Nat} : blen a ≤ k ↔ a < 2 ^ k := by
  constructor
  · intro h; exact Nat.lt_of_lt_of_le (blen_hi a) (Nat.pow_le_pow_right (by omega) h)
  · intro h
    by_cases h0 : a = 0
    · subst h0; simp [blen_zero]
    · have a1 := blen_lo h0
      have := (Nat.pow_lt_pow_iff_right (a := 2) (by omega)).1 (Nat.lt_of_le_of_lt a1 h)
      omega
theorem blen_mono {a b : Nat} (h : a ≤ b) : blen a ≤ blen b := blen_le.2 (Nat.lt_of_le_of_lt h (blen_hi b))
theorem bitLen_blen {x : Nat} (h : x < W64) : Lib.bitLen x = blen x := by
  rw [W64_eq] at h
  by_cases h0 : x = 0
  · subst h0; rfl
  · obtain ⟨h1, h2, h3⟩ := Lib.bitLenAux_bounds 64 x h h0
    have : Lib.bitLenAux 64 x = Lib.bitLen x := rfl
    rw [this] at h1 h2 h3
    obtain ⟨k, hk⟩ : ∃ k, Lib.bitLen x = k + 1 := ⟨Lib.bitLen x - 1, by omega⟩
    rw [hk] at h2 h3 ⊢
    exact (blen_of (by simpa using h2) h3).symm
theorem blen_mul_pow {a : Nat} (h : a ≠ 0) (k : Nat) : blen (a * 2 ^ k) = blen a + k := by
  have h1 := blen_lo h
  have h2 := blen_hi a
  have h3 := blen_pos h
  have e : blen a + k = (blen a - 1 + k) + 1 := by omega
  rw [e]
  apply blen_of
  · rw [Nat.pow_add]; exact Nat.mul_le_mul_right _ h1
  · have : blen a - 1 + k + 1 = blen a + k := by omega
    rw [this, Nat.pow_add]; exact Nat.mul_lt_mul_of_pos_right h2 (Nat.two_pow_pos k)
theorem toL_top {a : Nat} (h : a ≠ 0) : el (toL a) ((toL a).length - 1) = a / W64 ^ ((toL a).length - 1) := by
  rw [el_toL]
  apply Nat.mod_eq_of_lt
  rw [Nat.div_lt_iff_lt_mul (Nat.pow_pos W64_pos), Nat.mul_comm, ← Nat.pow_succ]
  have h1 : (toL a).length ≠ 0 := fun e => h ((toL_length_zero a).1 e)
  have : (toL a).length - 1 + 1 = (toL a).length := by omega
  rw [Nat.succ_eq_add_one, this]
  exact (toL_length_le a _).1 (Nat.le_refl _)
theorem blen_limbs {a : Nat} (h : a ≠ 0) : blen a = 64 * ((toL a).length - 1) + blen (el (toL a) ((toL a).length - 1)) := by
  have ht := toL_top h
  have hl := toL_last h
  generalize (toL a).length - 1 = n at *
  rw [ht] at hl ⊢
  rw [W64_pow] at hl ⊢
  have h1 := blen_lo hl
  have h2 := blen_hi (a / 2 ^ (64 * n))
  have h3 := blen_pos hl
  have e : 64 * n + blen (a / 2 ^ (64 * n)) = (64 * n + (blen (a / 2 ^ (64 * n)) - 1)) + 1 := by omega
  rw [e]
  generalize blen (a / 2 ^ (64 * n)) = b at *
  apply blen_of
  · rw [Nat.pow_add]
    calc 2 ^ (64 * n) * 2 ^ (b - 1) ≤ 2 ^ (64 * n) * (a / 2 ^ (64 * n)) := Nat.mul_le_mul_left _ h1
      _ ≤ a := Nat.mul_div_le _ _
  · have e2 : 64 * n + (b - 1) + 1 = b + 64 * n := by omega
    rw [e2, Nat.pow_add]
    exact (Nat.div_lt_iff_lt_mul (Nat.two_pow_pos _)).1 h2
theorem toL_length (a : Nat) : (toL a).length = (blen a + 63) / 64 := by
  by_cases h : a = 0
  · subst h; simp [toL_zero, blen_zero]
  · have h1 := blen_limbs h
    have h2 := blen_pos (toL_last h)
    have h3 : blen (el (toL a) ((toL a).length - 1)) ≤ 64 := blen_le.2 (by rw [← W64_eq]; exact el_lt (Wd_toL a) _)
    have h4 : (toL a).length ≠ 0 := fun e => h ((toL_length_zero a).1 e)
    omega
/-- The place of the lowest one bit; 0 of nought. -/
def tz (a : Nat) : Nat := if _h : a = 0 ∨ a % 2 = 1 then 0 else 1 + tz (a / 2)
termination_by a
decreasing_by omega
theorem tz_zero : tz 0 = 0 := by rw [tz]; simp
theorem tz_odd {a : Nat} (h : a % 2 = 1) : tz a = 0 := by rw [tz]; simp [h]
theorem tz_double {a : Nat} (h : a ≠ 0) : tz (2 * a) = 1 + tz a := by
  rw [tz, dif_neg (by omega)]
  congr 2
  omega
theorem tz_pow_mul {m : Nat} (h : m ≠ 0) (k : Nat) : tz (2 ^ k * m) = k + tz m := by
  induction k with
  | zero => simp
  | succ k ih =>
    have e : 2 ^ (k + 1) * m = 2 * (2 ^ k * m) := by rw [Nat.pow_succ]; ac_rfl
    rw [e, tz_double (Nat.mul_ne_zero (by have := Nat.two_pow_pos k; omega) h), ih]
    omega
theorem tz_of {a k m : Nat} (h : a = 2 ^ k * (2 * m + 1)) : tz a = k := by
  rw [h, tz_pow_mul (by omega), tz_odd (by omega)]; rfl
theorem tz_spec {a : Nat} (h : a ≠ 0) : ∃ m, a = 2 ^ tz a * (2 * m + 1) := by
  induction a using Nat.strongRecOn with
  | _ a ih =>
    by_cases h1 : a % 2 = 1
    · exact ⟨a / 2, by rw [tz_odd h1]; omega⟩
    · obtain ⟨m, hm⟩ := ih (a / 2) (by omega) (by omega)
      have e : a = 2 * (a / 2) := by omega
      refine ⟨m, ?_⟩
      rw [e, tz_double (by omega), Nat.pow_add]
      calc 2 * (a / 2) = 2 * (2 ^ tz (a / 2) * (2 * m + 1)) := by rw [← hm]
        _ = _ := by rw [Nat.pow_one, Nat.mul_assoc]
theorem ctz_tz {x : Nat} (h : x < W64) (h0 : x ≠ 0) : Lib.ctz 64 x = tz x ∧ tz x < 64 := by
  rw [W64_eq] at h
  obtain ⟨m, hm, hk⟩ := Lib.ctzFrom_spec 64 x (by omega) h
  have e : tz x = Lib.ctzFrom 64 x := tz_of hm
  rw [e]
  exact ⟨by rw [Lib.ctz, if_neg h0], hk⟩
theorem tz_le {a : Nat} (h : a ≠ 0) : tz a < blen a := by
  obtain ⟨m, hm⟩ := tz_spec h
  have h1 : 2 ^ tz a ≤ a := by
    calc 2 ^ tz a = 2 ^ tz a * 1 := (Nat.mul_one _).symm
      _ ≤ 2 ^ tz a * (2 * m + 1) := Nat.mul_le_mul_left _ (by omega)
      _ = a := hm.symm
  exact (Nat.pow_lt_pow_iff_right (a := 2) (by omega)).1 (Nat.lt_of_le_of_lt h1 (blen_hi a))
theorem vl_low {l : List Nat} {i : Nat} (hi : i < l.length) (hz : ∀ j, j < i → el l j = 0) : ∃ t, vl l = W64 ^ i * (el l i + W64 * t) := by
  induction l generalizing i with
  | nil => simp at hi
  | cons x u ih =>
    cases i with
    | zero => exact ⟨vl u, by simp [vl, el_cons_zero]⟩
    | succ i =>
      have h0 : x = 0 := by simpa [el_cons_zero] using hz 0 (by omega)
      obtain ⟨t, ht⟩ := ih (i := i) (by simpa using hi) fun j hj => by simpa [el_cons_succ] using hz (j + 1) (by omega)
      refine ⟨t, ?_⟩
      rw [vl, h0, ht, el_cons_succ, Nat.pow_succ]
      simp only [Nat.zero_add]
      ac_rfl
theorem tz_limbs {l : List Nat} (hw : Wd l) {i : Nat} (hi : i < l.length) (hz : ∀ j, j < i → el l j = 0) (hn : el l i ≠ 0) :
    tz (vl l) = 64 * i + tz (el l i) := by
  obtain ⟨t, ht⟩ := vl_low hi hz
  obtain ⟨m, hm⟩ := tz_spec hn
  have hlt := (ctz_tz (el_lt hw i) hn).2
  rw [ht, W64_pow]
  apply tz_of (m := m + 2 ^ (64 - tz (el l i) - 1) * t)
  have e : W64 = 2 ^ tz (el l i) * (2 * 2 ^ (64 - tz (el l i) - 1)) := by
    rw [W64_eq, ← Nat.pow_succ', ← Nat.pow_add]
    congr 1
    omega
  have key : ∀ z x : Nat, x = 2 ^ z * (2 * m + 1) → W64 = 2 ^ z * (2 * 2 ^ (64 - z - 1)) → x + W64 * t = 2 ^ z * (2 * (m + 2 ^ (64 - z - 1) * t) + 1) := by
    intro z x hx hW
    rw [hW, hx, Nat.mul_assoc, ← Nat.mul_add]
    congr 1
    rw [Nat.mul_add, Nat.mul_assoc, Nat.add_right_comm]
  rw [key _ _ hm e, Nat.pow_add, Nat.mul_assoc]
end Go.Proofs.YtooehlneoboenaaGreatDoor
