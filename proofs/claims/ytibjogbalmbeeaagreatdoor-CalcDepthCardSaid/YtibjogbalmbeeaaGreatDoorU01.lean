/- Plain facts on limbs: a natural as a list of words, the least first. No program in sight. · Plain facts: bit lengths and trailing noughts of naturals, and of their limbs. No program in sight. · Plain facts: shifts of naturals, limb by limb. No program in sight. · Plain facts: a shift to the left and a sum, limb by limb. No program in sight. -/
import Derived.Lib.BitFns
import Derived.Lib.ItoaNum
import Derived.Lib.TrailingZeros
import Derived.Laws.Bits64b
import Derived.WalkKit

namespace Go.Proofs.YtibjogbalmbeeaaGreatDoor

def W64 : Nat := 18446744073709551616
theorem W64_eq : W64 = 2 ^ 64 := by decide
theorem W64_pos : 0 < W64 := by decide
theorem W64_pow (n : Nat) : W64 ^ n = 2 ^ (64 * n) := by rw [W64_eq, ← Nat.pow_mul]
attribute [irreducible] W64

/-- The element at j, nought behind the end. -/
def el (l : List Nat) (j : Nat) : Nat := l.getD j 0
/-- The number of the limbs. -/
def vl : List Nat → Nat
  | [] => 0
  | x :: t => x + W64 * vl t
/-- The limbs of a number. -/
def toL (a : Nat) : List Nat := if _h : a = 0 then [] else a % W64 :: toL (a / W64)
termination_by a
decreasing_by exact Nat.div_lt_self (by omega) (by rw [W64_eq]; decide)
/-- All are words. -/
def Wd (l : List Nat) : Prop := ∀ x ∈ l, x < W64
/-- The lowest m limbs of a number. -/
def pad (m x : Nat) : List Nat := (List.range m).map fun i => x / W64 ^ i % W64

theorem toL_zero : toL 0 = [] := by rw [toL]; simp
theorem toL_pos {a : Nat} (h : a ≠ 0) : toL a = a % W64 :: toL (a / W64) := by rw [toL, dif_neg h]
theorem el_nil (j : Nat) : el [] j = 0 := by simp [el]
theorem el_cons_zero (x : Nat) (t : List Nat) : el (x :: t) 0 = x := by simp [el]
theorem el_cons_succ (x : Nat) (t : List Nat) (j : Nat) : el (x :: t) (j + 1) = el t j := by simp [el]
theorem el_lt {l : List Nat} (h : Wd l) (j : Nat) : el l j < W64 := by
  unfold el
  by_cases hj : j < l.length
  · simp only [List.getD_eq_getElem?_getD, List.getElem?_eq_getElem hj, Option.getD_some]
    exact h _ (List.getElem_mem hj)
  · simp only [List.getD_eq_getElem?_getD, List.getElem?_eq_none (Nat.le_of_not_lt hj), Option.getD_none]
    exact W64_pos
theorem el_out {l : List Nat} {j : Nat} (h : l.length ≤ j) : el l j = 0 := by
  simp [el, List.getD_eq_getElem?_getD, List.getElem?_eq_none h]
theorem el_get {l : List Nat} {j : Nat} (h : j < l.length) : el l j = l[j] := by
  simp [el, List.getD_eq_getElem?_getD, List.getElem?_eq_getElem h]
theorem list_ext {l m : List Nat} (hl : l.length = m.length) (h : ∀ j, j < l.length → el l j = el m j) : l = m := by
  apply List.ext_getElem hl
  intro i h1 h2
  have := h i h1
  rwa [el_get h1, el_get h2] at this
theorem Wd_nil : Wd [] := fun x h => by simp at h
theorem Wd_cons {x : Nat} {t : List Nat} : Wd (x :: t) ↔ x < W64 ∧ Wd t := by simp [Wd]
theorem Wd_toL (a : Nat) : Wd (toL a) := by
  induction a using Nat.strongRecOn with
  | _ a ih =>
    by_cases h : a = 0
    · rw [h, toL_zero]; exact Wd_nil
    · rw [toL_pos h, Wd_cons]
      exact ⟨Nat.mod_lt _ W64_pos, ih _ (Nat.div_lt_self (by omega) (by rw [W64_eq]; decide))⟩
theorem vl_toL (a : Nat) : vl (toL a) = a := by
  induction a using Nat.strongRecOn with
  | _ a ih =>
    by_cases h : a = 0
    · rw [h, toL_zero]; rfl
    · rw [toL_pos h, vl, ih _ (Nat.div_lt_self (by omega) (by rw [W64_eq]; decide))]
      exact Nat.mod_add_div a W64
theorem el_toL (a j : Nat) : el (toL a) j = a / W64 ^ j % W64 := by
  induction j generalizing a with
  | zero =>
    by_cases h : a = 0
    · rw [h, toL_zero, el_nil]; simp
    · rw [toL_pos h, el_cons_zero]; simp
  | succ j ih =>
    by_cases h : a = 0
    · rw [h, toL_zero, el_nil]; simp
    · rw [toL_pos h, el_cons_succ, ih, Nat.pow_succ, Nat.div_div_eq_div_mul, Nat.mul_comm (W64 ^ j)]
theorem toL_length_le (a n : Nat) : (toL a).length ≤ n ↔ a < W64 ^ n := by
  induction n generalizing a with
  | zero =>
    by_cases h : a = 0
    · rw [h, toL_zero]; simp
    · rw [toL_pos h]; simp; omega
  | succ n ih =>
    by_cases h : a = 0
    · rw [h, toL_zero]; simp; exact Nat.pow_pos W64_pos
    · rw [toL_pos h, List.length_cons, Nat.succ_le_succ_iff, ih, Nat.pow_succ, Nat.div_lt_iff_lt_mul W64_pos]
theorem toL_length_zero (a : Nat) : (toL a).length = 0 ↔ a = 0 := by
  by_cases h : a = 0
  · rw [h, toL_zero]; simp
  · rw [toL_pos h]; simp [h]
theorem toL_last {a : Nat} (h : a ≠ 0) : el (toL a) ((toL a).length - 1) ≠ 0 := by
  induction a using Nat.strongRecOn with
  | _ a ih =>
    rw [toL_pos h, List.length_cons]
    by_cases h2 : a / W64 = 0
    · rw [h2, toL_zero]
      simp only [List.length_nil, Nat.zero_add, Nat.sub_self, el_cons_zero]
      rw [Nat.mod_eq_of_lt ((Nat.div_eq_zero_iff_lt W64_pos).1 h2)]; exact h
    · have h3 := ih _ (Nat.div_lt_self (by omega) (by rw [W64_eq]; decide)) h2
      have h4 : (toL (a / W64)).length ≠ 0 := fun e => h2 ((toL_length_zero _).1 e)
      obtain ⟨m, hm⟩ : ∃ m, (toL (a / W64)).length = m + 1 := ⟨(toL (a / W64)).length - 1, by omega⟩
      rw [hm] at h3 ⊢
      simpa [el_cons_succ] using h3
theorem vl_zero_of {l : List Nat} (h : ∀ j, j < l.length → el l j = 0) : vl l = 0 := by
  induction l with
  | nil => rfl
  | cons x t ih =>
    have h0 : x = 0 := by simpa [el_cons_zero] using h 0 (by simp)
    have ht := ih fun j hj => by simpa [el_cons_succ] using h (j + 1) (by simp; omega)
    simp [vl, h0, ht]
theorem toL_vl_of {l : List Nat} (hw : Wd l) (h : l = [] ∨ el l (l.length - 1) ≠ 0) : toL (vl l) = l := by
  induction l with
  | nil => simp [vl, toL_zero]
  | cons x t ih =>
    have ⟨hx, ht⟩ := Wd_cons.1 hw
    have hlast : el (x :: t) t.length ≠ 0 := by
      rcases h with h | h
      · cases h
      · simpa using h
    have hne : vl (x :: t) ≠ 0 := by
      cases t with
      | nil => simp only [List.length_nil, el_cons_zero] at hlast; simp [vl, hlast]
      | cons y u =>
        have h2 : y :: u = [] ∨ el (y :: u) ((y :: u).length - 1) ≠ 0 := .inr (by simpa [el_cons_succ] using hlast)
        have h3 := ih ht h2
        have h4 : vl (y :: u) ≠ 0 := fun e => by rw [e, toL_zero] at h3; cases h3
        intro e
        have e2 : x + W64 * vl (y :: u) = 0 := e
        have := W64_pos
        have : W64 * vl (y :: u) = 0 := by omega
        rcases Nat.mul_eq_zero.1 this with h5 | h5 <;> omega
    have hm : vl (x :: t) % W64 = x := by simp [vl, Nat.add_mul_mod_self_left, Nat.mod_eq_of_lt hx]
    have hd : vl (x :: t) / W64 = vl t := by simp only [vl]; rw [Nat.add_mul_div_left _ _ W64_pos, Nat.div_eq_of_lt hx, Nat.zero_add]
    rw [toL_pos hne, hm, hd]
    congr 1
    apply ih ht
    cases t with
    | nil => exact .inl rfl
    | cons y u => exact .inr (by simpa [el_cons_succ] using hlast)
theorem vl_append_zero (l : List Nat) (n : Nat) : vl (l ++ List.replicate n 0) = vl l := by
  induction l with
  | nil =>
    refine vl_zero_of fun j hj => ?_
    simp at hj
    simp [el, List.getD_eq_getElem?_getD, hj]
  | cons x t ih => simp [vl, ih]
/-- The limbs below n without the noughts at their end. -/
def trimTo (l : List Nat) : Nat → List Nat
  | 0 => []
  | n + 1 => if el l n = 0 then trimTo l n else l.take (n + 1)
theorem el_take {l : List Nat} {n j : Nat} (h : j < n) : el (l.take n) j = el l j := by
  simp [el, List.getD_eq_getElem?_getD, h]
theorem Wd_take {l : List Nat} (h : Wd l) (n : Nat) : Wd (l.take n) := fun x hx => h x (List.mem_of_mem_take hx)
theorem vl_take_succ {l : List Nat} {n : Nat} (hn : n < l.length) (hz : el l n = 0) : vl (l.take (n + 1)) = vl (l.take n) := by
  have e : l.take (n + 1) = l.take n ++ List.replicate 1 0 := by
    rw [List.take_succ_eq_append_getElem hn]
    have : l[n] = 0 := by rwa [el_get hn] at hz
    simp [this]
  rw [e, vl_append_zero]
theorem trimTo_eq {l : List Nat} (hw : Wd l) (n : Nat) (hn : n ≤ l.length) : trimTo l n = toL (vl (l.take n)) := by
  induction n with
  | zero => simp [trimTo, vl, toL_zero]
  | succ n ih =>
    rw [trimTo]
    by_cases hz : el l n = 0
    · rw [if_pos hz, ih (by omega), vl_take_succ (by omega) hz]
    · rw [if_neg hz]
      refine (toL_vl_of (Wd_take hw _) (.inr ?_)).symm
      have e : (l.take (n + 1)).length - 1 = n := by simp; omega
      rw [e, el_take (by omega)]; exact hz
theorem trimTo_take {l : List Nat} (n : Nat) (hn : n ≤ l.length) : trimTo l n = l.take (trimTo l n).length := by
  induction n with
  | zero => simp [trimTo]
  | succ n ih =>
    rw [trimTo]
    by_cases hz : el l n = 0
    · rw [if_pos hz]; exact ih (by omega)
    · rw [if_neg hz]; simp
theorem pad_length (m x : Nat) : (pad m x).length = m := by simp [pad]
theorem el_pad {m x j : Nat} (h : j < m) : el (pad m x) j = x / W64 ^ j % W64 := by
  rw [el_get (by rw [pad_length]; exact h)]
  simp [pad]
theorem Wd_pad (m x : Nat) : Wd (pad m x) := by
  intro y hy
  simp only [pad, List.mem_map] at hy
  obtain ⟨i, _, rfl⟩ := hy
  exact Nat.mod_lt _ W64_pos
theorem pad_succ' (m x : Nat) : pad (m + 1) x = x % W64 :: pad m (x / W64) := by
  apply list_ext
  · simp [pad_length]
  · intro j hj
    rw [pad_length] at hj
    rw [el_pad hj]
    cases j with
    | zero => simp [el_cons_zero]
    | succ j => rw [el_cons_succ, el_pad (by omega), Nat.pow_succ, Nat.div_div_eq_div_mul, Nat.mul_comm (W64 ^ j)]
theorem vl_pad (m x : Nat) : vl (pad m x) = x % W64 ^ m := by
  induction m generalizing x with
  | zero => simp [pad, vl, Nat.mod_one]
  | succ m ih =>
    rw [pad_succ', vl, ih, Nat.pow_succ, Nat.mul_comm (W64 ^ m), Nat.mod_mul]
theorem vl_pad_of {m x : Nat} (h : x < W64 ^ m) : vl (pad m x) = x := by rw [vl_pad, Nat.mod_eq_of_lt h]
theorem el_vl {l : List Nat} (h : Wd l) (j : Nat) : el l j = vl l / W64 ^ j % W64 := by
  induction l generalizing j with
  | nil => simp [el_nil, vl]
  | cons x t ih =>
    have ⟨hx, ht⟩ := Wd_cons.1 h
    cases j with
    | zero => simp [el_cons_zero, vl, Nat.add_mul_mod_self_left, Nat.mod_eq_of_lt hx]
    | succ j =>
      rw [el_cons_succ, ih ht, Nat.pow_succ, Nat.mul_comm (W64 ^ j), ← Nat.div_div_eq_div_mul, vl, Nat.add_mul_div_left _ _ W64_pos, Nat.div_eq_of_lt hx, Nat.zero_add]
theorem pad_vl {l : List Nat} (h : Wd l) : pad l.length (vl l) = l := by
  apply list_ext (pad_length _ _)
  intro j hj
  rw [pad_length] at hj
  rw [el_pad hj, el_vl h]
theorem pad_toL {a m : Nat} (h : (toL a).length = m) : pad m a = toL a := by
  have := pad_vl (Wd_toL a)
  rwa [vl_toL, h] at this
/-- The first i limbs of x, noughts up to m. -/
def fil (m i x : Nat) : List Nat := pad i x ++ List.replicate (m - i) 0
theorem fil_length {m i x : Nat} (h : i ≤ m) : (fil m i x).length = m := by simp [fil, pad_length]; omega
theorem fil_zero (m x : Nat) : fil m 0 x = List.replicate m 0 := by simp [fil, pad]
theorem fil_full (m x : Nat) : fil m m x = pad m x := by simp [fil]
theorem el_fil {m i x j : Nat} : el (fil m i x) j = if j < i then x / W64 ^ j % W64 else 0 := by
  by_cases h : j < i
  · have e : el (fil m i x) j = el (pad i x) j := by
      simp [el, fil, List.getD_eq_getElem?_getD, List.getElem?_append_left (show j < (pad i x).length by rw [pad_length]; exact h)]
    rw [if_pos h, e, el_pad h]
  · rw [if_neg h]
    simp only [el, fil, List.getD_eq_getElem?_getD]
    rw [List.getElem?_append_right (by rw [pad_length]; omega)]
    simp only [List.getElem?_replicate]
    split <;> rfl
theorem el_set {l : List Nat} {i j v : Nat} (h : i < l.length) : el (l.set i v) j = if j = i then v else el l j := by
  simp only [el, List.getD_eq_getElem?_getD, List.getElem?_set]
  by_cases e : i = j
  · subst e; simp [h]
  · simp [e, Ne.symm e]
theorem fil_set {m i x v : Nat} (h : i < m) (hv : v = x / W64 ^ i % W64) : (fil m i x).set i v = fil m (i + 1) x := by
  have hl : (fil m i x).length = m := fil_length (by omega)
  apply list_ext
  · rw [List.length_set, hl, fil_length (by omega)]
  · intro j hj
    rw [el_set (by rw [hl]; exact h), el_fil, el_fil]
    by_cases e : j = i
    · subst e; simp [hv]
    · rw [if_neg e]
      by_cases h1 : j < i
      · rw [if_pos h1, if_pos (by omega)]
      · rw [if_neg h1, if_neg (by omega)]
end Go.Proofs.YtibjogbalmbeeaaGreatDoor

namespace Go.Proofs.YtibjogbalmbeeaaGreatDoor

/-- The bit length. -/
def blen (a : Nat) : Nat := if a = 0 then 0 else a.log2 + 1
theorem blen_zero : blen 0 = 0 := rfl
theorem blen_pos {a : Nat} (h : a ≠ 0) : 1 ≤ blen a := by unfold blen; rw [if_neg h]; omega
theorem blen_lo {a : Nat} (h : a ≠ 0) : 2 ^ (blen a - 1) ≤ a := by
  unfold blen; rw [if_neg h]; simp; exact Nat.log2_self_le h
theorem blen_hi (a : Nat) : a < 2 ^ blen a := by
  unfold blen
  by_cases h : a = 0
  · rw [if_pos h]; omega
  · rw [if_neg h]; exact Nat.lt_log2_self
theorem blen_of {a k : Nat} (h1 : 2 ^ k ≤ a) (h2 : a < 2 ^ (k + 1)) : blen a = k + 1 := by
  have h0 : a ≠ 0 := by have := Nat.two_pow_pos k; omega
  have a1 := blen_lo h0
  have a2 := blen_hi a
  have a3 := blen_pos h0
  have b1 : k < blen a := (Nat.pow_lt_pow_iff_right (a := 2) (by omega)).1 (by omega)
  have b2 : blen a - 1 < k + 1 := (Nat.pow_lt_pow_iff_right (a := 2) (by omega)).1 (by omega)
  omega
theorem blen_le {a k : Nat} : blen a ≤ k ↔ a < 2 ^ k := by
  constructor
  · intro h; exact Nat.lt_of_lt_of_le (blen_hi a) (Nat.pow_le_pow_right (by omega) h)
  · intro h
    by_cases h0 : a = 0
    · subst h0; simp [blen_zero]
    · have a1 := blen_lo h0
      have := (Nat.pow_lt_pow_iff_right (a := 2) (by omega)).1 (Nat.lt_of_le_of_lt a1 h)
      omega
theorem blen_mono {a b : Nat} (h : a ≤ b) : blen a ≤ blen b := blen_le.2 (Nat.lt_of_le_of_lt h (blen_hi b))
theorem bitLen_blen {x : Nat} (h : x < W64) : Lib.bitLen x = blen x := by
  rw [W64_eq] at h
  by_cases h0 : x = 0
  · subst h0; rfl
  · obtain ⟨h1, h2, h3⟩ := Lib.bitLenAux_bounds 64 x h h0
    have : Lib.bitLenAux 64 x = Lib.bitLen x := rfl
    rw [this] at h1 h2 h3
    obtain ⟨k, hk⟩ : ∃ k, Lib.bitLen x = k + 1 := ⟨Lib.bitLen x - 1, by omega⟩
    rw [hk] at h2 h3 ⊢
    exact (blen_of (by simpa using h2) h3).symm
theorem blen_mul_pow {a : Nat} (h : a ≠ 0) (k : Nat) : blen (a * 2 ^ k) = blen a + k := by
  have h1 := blen_lo h
  have h2 := blen_hi a
  have h3 := blen_pos h
  have e : blen a + k = (blen a - 1 + k) + 1 := by omega
  rw [e]
  apply blen_of
  · rw [Nat.pow_add]; exact Nat.mul_le_mul_right _ h1
  · have : blen a - 1 + k + 1 = blen a + k := by omega
    rw [this, Nat.pow_add]; exact Nat.mul_lt_mul_of_pos_right h2 (Nat.two_pow_pos k)
theorem toL_top {a : Nat} (h : a ≠ 0) : el (toL a) ((toL a).length - 1) = a / W64 ^ ((toL a).length - 1) := by
  rw [el_toL]
  apply Nat.mod_eq_of_lt
  rw [Nat.div_lt_iff_lt_mul (Nat.pow_pos W64_pos), Nat.mul_comm, ← Nat.pow_succ]
  have h1 : (toL a).length ≠ 0 := fun e => h ((toL_length_zero a).1 e)
  have : (toL a).length - 1 + 1 = (toL a).length := by omega
  rw [Nat.succ_eq_add_one, this]
  exact (toL_length_le a _).1 (Nat.le_refl _)
theorem blen_limbs {a : Nat} (h : a ≠ 0) : blen a = 64 * ((toL a).length - 1) + blen (el (toL a) ((toL a).length - 1)) := by
  have ht := toL_top h
  have hl := toL_last h
  generalize (toL a).length - 1 = n at *
  rw [ht] at hl ⊢
  rw [W64_pow] at hl ⊢
  have h1 := blen_lo hl
  have h2 := blen_hi (a / 2 ^ (64 * n))
  have h3 := blen_pos hl
  have e : 64 * n + blen (a / 2 ^ (64 * n)) = (64 * n + (blen (a / 2 ^ (64 * n)) - 1)) + 1 := by omega
  rw [e]
  generalize blen (a / 2 ^ (64 * n)) = b at *
  apply blen_of
  · rw [Nat.pow_add]
    calc 2 ^ (64 * n) * 2 ^ (b - 1) ≤ 2 ^ (64 * n) * (a / 2 ^ (64 * n)) := Nat.mul_le_mul_left _ h1
      _ ≤ a := Nat.mul_div_le _ _
  · have e2 : 64 * n + (b - 1) + 1 = b + 64 * n := by omega
    rw [e2, Nat.pow_add]
    exact (Nat.div_lt_iff_lt_mul (Nat.two_pow_pos _)).1 h2
theorem toL_length (a : Nat) : (toL a).length = (blen a + 63) / 64 := by
  by_cases h : a = 0
  · subst h; simp [toL_zero, blen_zero]
  · have h1 := blen_limbs h
    have h2 := blen_pos (toL_last h)
    have h3 : blen (el (toL a) ((toL a).length - 1)) ≤ 64 := blen_le.2 (by rw [← W64_eq]; exact el_lt (Wd_toL a) _)
    have h4 : (toL a).length ≠ 0 := fun e => h ((toL_length_zero a).1 e)
    omega
/-- The place of the lowest one bit; 0 of nought. -/
def tz (a : Nat) : Nat := if _h : a = 0 ∨ a % 2 = 1 then 0 else 1 + tz (a / 2)
termination_by a
decreasing_by omega
theorem tz_zero : tz 0 = 0 := by rw [tz]; simp
theorem tz_odd {a : Nat} (h : a % 2 = 1) : tz a = 0 := by rw [tz]; simp [h]
theorem tz_double {a : Nat} (h : a ≠ 0) : tz (2 * a) = 1 + tz a := by
  rw [tz, dif_neg (by omega)]
  congr 2
  omega
theorem tz_pow_mul {m : Nat} (h : m ≠ 0) (k : Nat) : tz (2 ^ k * m) = k + tz m := by
  induction k with
  | zero => simp
  | succ k ih =>
    have e : 2 ^ (k + 1) * m = 2 * (2 ^ k * m) := by rw [Nat.pow_succ]; ac_rfl
    rw [e, tz_double (Nat.mul_ne_zero (by have := Nat.two_pow_pos k; omega) h), ih]
    omega
theorem tz_of {a k m : Nat} (h : a = 2 ^ k * (2 * m + 1)) : tz a = k := by
  rw [h, tz_pow_mul (by omega), tz_odd (by omega)]; rfl
theorem tz_spec {a : Nat} (h : a ≠ 0) : ∃ m, a = 2 ^ tz a * (2 * m + 1) := by
  induction a using Nat.strongRecOn with
  | _ a ih =>
    by_cases h1 : a % 2 = 1
    · exact ⟨a / 2, by rw [tz_odd h1]; omega⟩
    · obtain ⟨m, hm⟩ := ih (a / 2) (by omega) (by omega)
      have e : a = 2 * (a / 2) := by omega
      refine ⟨m, ?_⟩
      rw [e, tz_double (by omega), Nat.pow_add]
      calc 2 * (a / 2) = 2 * (2 ^ tz (a / 2) * (2 * m + 1)) := by rw [← hm]
        _ = _ := by rw [Nat.pow_one, Nat.mul_assoc]
theorem ctz_tz {x : Nat} (h : x < W64) (h0 : x ≠ 0) : Lib.ctz 64 x = tz x ∧ tz x < 64 := by
  rw [W64_eq] at h
  obtain ⟨m, hm, hk⟩ := Lib.ctzFrom_spec 64 x (by omega) h
  have e : tz x = Lib.ctzFrom 64 x := tz_of hm
  rw [e]
  exact ⟨by rw [Lib.ctz, if_neg h0], hk⟩
theorem tz_le {a : Nat} (h : a ≠ 0) : tz a < blen a := by
  obtain ⟨m, hm⟩ := tz_spec h
  have h1 : 2 ^ tz a ≤ a := by
    calc 2 ^ tz a = 2 ^ tz a * 1 := (Nat.mul_one _).symm
      _ ≤ 2 ^ tz a * (2 * m + 1) := Nat.mul_le_mul_left _ (by omega)
      _ = a := hm.symm
  exact (Nat.pow_lt_pow_iff_right (a := 2) (by omega)).1 (Nat.lt_of_le_of_lt h1 (blen_hi a))
theorem vl_low {l : List Nat} {i : Nat} (hi : i < l.length) (hz : ∀ j, j < i → el l j = 0) : ∃ t, vl l = W64 ^ i * (el l i + W64 * t) := by
  induction l generalizing i with
  | nil => simp at hi
  | cons x u ih =>
    cases i with
    | zero => exact ⟨vl u, by simp [vl, el_cons_zero]⟩
    | succ i =>
      have h0 : x = 0 := by simpa [el_cons_zero] using hz 0 (by omega)
      obtain ⟨t, ht⟩ := ih (i := i) (by simpa using hi) fun j hj => by simpa [el_cons_succ] using hz (j + 1) (by omega)
      refine ⟨t, ?_⟩
      rw [vl, h0, ht, el_cons_succ, Nat.pow_succ]
      simp only [Nat.zero_add]
      ac_rfl
theorem tz_limbs {l : List Nat} (hw : Wd l) {i : Nat} (hi : i < l.length) (hz : ∀ j, j < i → el l j = 0) (hn : el l i ≠ 0) :
    tz (vl l) = 64 * i + tz (el l i) := by
  obtain ⟨t, ht⟩ := vl_low hi hz
  obtain ⟨m, hm⟩ := tz_spec hn
  have hlt := (ctz_tz (el_lt hw i) hn).2
  rw [ht, W64_pow]
  apply tz_of (m := m + 2 ^ (64 - tz (el l i) - 1) * t)
  have e : W64 = 2 ^ tz (el l i) * (2 * 2 ^ (64 - tz (el l i) - 1)) := by
    rw [W64_eq, ← Nat.pow_succ', ← Nat.pow_add]
    congr 1
    omega
  have key : ∀ z x : Nat, x = 2 ^ z * (2 * m + 1) → W64 = 2 ^ z * (2 * 2 ^ (64 - z - 1)) → x + W64 * t = 2 ^ z * (2 * (m + 2 ^ (64 - z - 1) * t) + 1) := by
    intro z x hx hW
    rw [hW, hx, Nat.mul_assoc, ← Nat.mul_add]
    congr 1
    rw [Nat.mul_add, Nat.mul_assoc, Nat.add_right_comm]
  rw [key _ _ hm e, Nat.pow_add, Nat.mul_assoc]
end Go.Proofs.YtibjogbalmbeeaaGreatDoor

namespace Go.Proofs.YtibjogbalmbeeaaGreatDoor

theorem W_split {r : Nat} (h : r ≤ 64) : W64 = 2 ^ r * 2 ^ (64 - r) := by
  rw [W64_eq, ← Nat.pow_add]; congr 1; omega
theorem mul_pow_mod (b r : Nat) (h : r ≤ 64) : (b % W64 * 2 ^ (64 - r)) % W64 = 2 ^ (64 - r) * (b % 2 ^ r) := by
  rw [Nat.mod_mul_mod]
  rw [W_split h, Nat.mul_comm b, Nat.mul_comm (2 ^ r), Nat.mul_mod_mul_left]
theorem shr_mod (b r : Nat) (h : r ≤ 64) : (b / 2 ^ r) % W64 = (b % W64) / 2 ^ r + ((b / W64 % W64) * 2 ^ (64 - r)) % W64 := by
  rw [mul_pow_mod _ _ h]
  have hb : b = 2 ^ r * (2 ^ (64 - r) * (b / W64)) + b % W64 := by
    rw [← Nat.mul_assoc, ← W_split h]; exact (Nat.div_add_mod b W64).symm
  have h1 : b / 2 ^ r = 2 ^ (64 - r) * (b / W64) + (b % W64) / 2 ^ r := by
    conv => lhs; rw [hb]
    rw [Nat.mul_add_div (Nat.two_pow_pos r)]
  have h2 : (b % W64) / 2 ^ r < 2 ^ (64 - r) := by
    rw [Nat.div_lt_iff_lt_mul (Nat.two_pow_pos r), Nat.mul_comm, ← W_split h]; exact Nat.mod_lt _ W64_pos
  rw [h1]
  generalize (b % W64) / 2 ^ r = x at *
  generalize b / W64 = c at *
  have hp := Nat.two_pow_pos (64 - r)
  have h3 : 2 ^ (64 - r) * c % W64 = 2 ^ (64 - r) * (c % 2 ^ r) := by
    rw [W_split h, Nat.mul_comm (2 ^ r), Nat.mul_mod_mul_left]
  have h4 : x + 2 ^ (64 - r) * (c % 2 ^ r) < W64 := by
    have : c % 2 ^ r + 1 ≤ 2 ^ r := Nat.mod_lt _ (Nat.two_pow_pos r)
    have h5 := Nat.mul_le_mul_left (2 ^ (64 - r)) this
    rw [Nat.mul_add, Nat.mul_comm (2 ^ (64 - r)) (2 ^ r), ← W_split h] at h5
    omega
  rw [Nat.add_comm, Nat.add_mod, h3, Nat.mod_eq_of_lt (by omega : x < W64), Nat.mod_eq_of_lt h4]
theorem shr_limb (a n k : Nat) : (a / 2 ^ n) / W64 ^ k % W64 = (a / W64 ^ (n / 64 + k) % W64) / 2 ^ (n % 64) + ((a / W64 ^ (n / 64 + k + 1) % W64) * 2 ^ (64 - n % 64)) % W64 := by
  have h1 : a / 2 ^ n / W64 ^ k = (a / W64 ^ (n / 64 + k)) / 2 ^ (n % 64) := by
    rw [Nat.div_div_eq_div_mul, Nat.div_div_eq_div_mul, W64_pow, W64_pow, ← Nat.pow_add, ← Nat.pow_add]
    congr 2; omega
  have h2 : a / W64 ^ (n / 64 + k + 1) = (a / W64 ^ (n / 64 + k)) / W64 := by rw [Nat.pow_succ, Nat.div_div_eq_div_mul]
  rw [h1, h2]
  exact shr_mod _ _ (by omega)
theorem or_word (x y r : Nat) (hx : x < W64) (hr : r < 64) :
    bits BinOp.or IntKind.u64 ((x : Int) / 2 ^ r) (IntKind.u64.wrap (IntKind.u64.wrap ((y : Int) * 2) * 2 ^ (63 - r))) = ((x / 2 ^ r + (y % W64 * 2 ^ (64 - r)) % W64 : Nat) : Int) := by
  have e1 : ((x : Int) / 2 ^ r) = ((x / 2 ^ r : Nat) : Int) := by simp
  have e2 : IntKind.u64.wrap (IntKind.u64.wrap ((y : Int) * 2) * 2 ^ (63 - r)) = ((y % W64 * 2 ^ (64 - r) % W64 : Nat) : Int) := by
    have hp : 2 ^ (64 - r) = 2 * 2 ^ (63 - r) := by rw [← Nat.pow_succ']; congr 1; omega
    rw [IntKind.wrap_u64, IntKind.wrap_u64, Nat.mod_mul_mod, hp, ← Nat.mul_assoc, W64_eq]
    have e3 : ((y : Int) * 2) % 18446744073709551616 = ((y * 2 % 18446744073709551616 : Nat) : Int) := by omega
    have e4 : (2 : Int) ^ (63 - r) = ((2 ^ (63 - r) : Nat) : Int) := by simp
    rw [e3, e4, ← Int.natCast_mul]
    have e5 : (18446744073709551616 : Int) = ((18446744073709551616 : Nat) : Int) := rfl
    rw [e5, ← Int.natCast_emod, Nat.mod_mul_mod]
  have h1 : x / 2 ^ r < 2 ^ (64 - r) := by
    rw [Nat.div_lt_iff_lt_mul (Nat.two_pow_pos r), Nat.mul_comm, ← W_split (by omega)]; exact hx
  have h2 : x / 2 ^ r < 18446744073709551616 := by
    have := Nat.lt_of_le_of_lt (Nat.div_le_self x (2 ^ r)) hx
    rwa [W64_eq] at this
  have h3 : (y % W64 * 2 ^ (64 - r)) % W64 < 18446744073709551616 := by
    have := Nat.mod_lt (y % W64 * 2 ^ (64 - r)) W64_pos
    rwa [W64_eq] at this ⊢
  rw [e1, e2, bits_or_u64_nat _ _ h2 h3, mul_pow_mod _ _ (by omega), Nat.or_comm, ← Nat.two_pow_add_eq_or_of_lt h1, Nat.add_comm]
end Go.Proofs.YtibjogbalmbeeaaGreatDoor

namespace Go.Proofs.YtibjogbalmbeeaaGreatDoor

theorem W64_num : W64 = 18446744073709551616 := by rw [W64_eq]
theorem low_high {p c y : Nat} (hy : y < W64 ^ p) : (W64 ^ p * c + y) / W64 ^ p = c := by
  rw [Nat.mul_add_div (Nat.pow_pos W64_pos), Nat.div_eq_of_lt hy, Nat.add_zero]
theorem low_same {p c y j : Nat} (hj : j < p) : (W64 ^ p * c + y) / W64 ^ j % W64 = y / W64 ^ j % W64 := by
  obtain ⟨q, rfl⟩ : ∃ q, p = j + (q + 1) := ⟨p - j - 1, by omega⟩
  rw [Nat.pow_add, Nat.mul_assoc, Nat.mul_add_div (Nat.pow_pos W64_pos), Nat.pow_succ, Nat.mul_comm (W64 ^ q), Nat.mul_assoc, Nat.add_comm, Nat.add_mul_mod_self_left]
theorem el_pad_at {M p c y : Nat} (hp : p < M) (hy : y < W64 ^ p) : el (pad M (W64 ^ p * c + y)) p = c % W64 := by
  rw [el_pad hp, low_high hy]
theorem pad_step {M p c d y : Nat} (hp : p + 1 < M) (hy : y < W64 ^ p) (hc : c < W64) (hd : d < W64 * W64) :
    ((pad M (W64 ^ p * c + y)).set p (d % W64)).set (p + 1) (d / W64) = pad M (W64 ^ p * d + y) := by
  apply list_ext
  · simp [pad_length]
  · intro j hj
    simp only [List.length_set, pad_length] at hj
    rw [el_set (by rw [List.length_set, pad_length]; exact hp), el_set (by rw [pad_length]; omega), el_pad hj, el_pad hj]
    have hW := W64_pos
    by_cases h1 : j = p + 1
    · subst h1
      rw [if_pos rfl, Nat.pow_succ, ← Nat.div_div_eq_div_mul, low_high hy, Nat.mod_eq_of_lt]
      exact (Nat.div_lt_iff_lt_mul hW).2 hd
    · rw [if_neg h1]
      by_cases h2 : j = p
      · subst h2
        rw [if_pos rfl, low_high hy]
      · rw [if_neg h2]
        by_cases h3 : j < p
        · rw [low_same h3, low_same h3]
        · obtain ⟨q, rfl⟩ : ∃ q, j = p + (q + 2) := ⟨j - p - 2, by omega⟩
          rw [Nat.pow_add, ← Nat.div_div_eq_div_mul, ← Nat.div_div_eq_div_mul, low_high hy, low_high hy]
          have e : W64 ^ (q + 2) = W64 ^ q * (W64 * W64) := by rw [Nat.pow_succ, Nat.pow_succ, Nat.mul_assoc]
          have h4 : 1 ≤ W64 ^ q := Nat.pow_pos hW
          have h5 : d < W64 ^ (q + 2) := by rw [e]; exact Nat.lt_of_lt_of_le hd (Nat.le_mul_of_pos_left _ h4)
          have h6 : c < W64 ^ (q + 2) := by
            refine Nat.lt_of_lt_of_le hc ?_
            rw [e]
            calc W64 = 1 * (W64 * 1) := by omega
              _ ≤ _ := Nat.mul_le_mul h4 (Nat.mul_le_mul_left _ hW)
          rw [Nat.div_eq_of_lt h5, Nat.div_eq_of_lt h6]
theorem mod_pow_succ (a i : Nat) : a % W64 ^ (i + 1) = W64 ^ i * (a / W64 ^ i % W64) + a % W64 ^ i := by
  rw [Nat.pow_succ, Nat.mod_mul]; omega
/-- One round of Shl: c the limb that stood there, x the limb that is shifted. -/
theorem shl_step {M a n i : Nat} (hM : n / 64 + i + 1 < M) :
    el (pad M (a % W64 ^ i * 2 ^ n)) (n / 64 + i) < 2 ^ (n % 64) ∧
    ((pad M (a % W64 ^ i * 2 ^ n)).set (n / 64 + i) (el (pad M (a % W64 ^ i * 2 ^ n)) (n / 64 + i) + (a / W64 ^ i % W64) * 2 ^ (n % 64) % W64)).set (n / 64 + i + 1) ((a / W64 ^ i % W64) / 2 ^ (64 - n % 64)) =
      pad M (a % W64 ^ (i + 1) * 2 ^ n) := by
  have hr : n % 64 < 64 := Nat.mod_lt _ (by omega)
  have e2 : 2 ^ n = W64 ^ (n / 64) * 2 ^ (n % 64) := by rw [W64_pow, ← Nat.pow_add]; congr 1; omega
  have hx : a / W64 ^ i % W64 < W64 := Nat.mod_lt _ W64_pos
  have ha := mod_pow_succ a i
  have hi : a % W64 ^ i < W64 ^ i := Nat.mod_lt _ (Nat.pow_pos W64_pos)
  rw [ha]
  generalize a / W64 ^ i % W64 = x at *
  generalize a % W64 ^ i = z at *
  generalize n % 64 = r at *
  generalize n / 64 = L at *
  rw [e2]
  clear e2 ha
  -- z * 2^n = W^(L+i) * c + y
  have hp : W64 ^ (L + i) = W64 ^ L * W64 ^ i := Nat.pow_add ..
  obtain ⟨c, hc⟩ : ∃ c, c = (z * 2 ^ r) / W64 ^ i := ⟨_, rfl⟩
  obtain ⟨y, hy⟩ : ∃ y, y = (z * 2 ^ r) % W64 ^ i := ⟨_, rfl⟩
  have hyl : y < W64 ^ i := by rw [hy]; exact Nat.mod_lt _ (Nat.pow_pos W64_pos)
  have hcl : c < 2 ^ r := by
    rw [hc, Nat.div_lt_iff_lt_mul (Nat.pow_pos W64_pos), Nat.mul_comm (2 ^ r)]
    exact Nat.mul_lt_mul_of_pos_right hi (Nat.two_pow_pos r)
  have hz : z * 2 ^ r = W64 ^ i * c + y := by rw [hc, hy]; exact (Nat.div_add_mod _ _).symm
  have h1 : z * (W64 ^ L * 2 ^ r) = W64 ^ (L + i) * c + W64 ^ L * y := by
    calc z * (W64 ^ L * 2 ^ r) = W64 ^ L * (z * 2 ^ r) := by ac_rfl
      _ = _ := by rw [hz, Nat.mul_add, hp, Nat.mul_assoc]
  have h2 : (W64 ^ i * x + z) * (W64 ^ L * 2 ^ r) = W64 ^ (L + i) * (c + x * 2 ^ r) + W64 ^ L * y := by
    rw [Nat.add_mul, h1, Nat.mul_add, hp, ← Nat.add_assoc]
    congr 1
    rw [Nat.add_comm]
    congr 1
    ac_rfl
  have hy2 : W64 ^ L * y < W64 ^ (L + i) := by rw [hp]; exact Nat.mul_lt_mul_of_pos_left hyl (Nat.pow_pos W64_pos)
  have hrW : 2 ^ r ≤ W64 := by rw [W64_eq]; exact Nat.pow_le_pow_right (by omega) (by omega)
  have hcW : c < W64 := Nat.lt_of_lt_of_le hcl hrW
  rw [h1, h2, el_pad_at (by omega) hy2, Nat.mod_eq_of_lt hcW]
  refine ⟨hcl, ?_⟩
  -- the new limbs
  have hs := W_split (r := r) (by omega)
  have hm : x * 2 ^ r % W64 = 2 ^ r * (x % 2 ^ (64 - r)) := by
    rw [hs, Nat.mul_comm x, Nat.mul_mod_mul_left]
  have hm2 : c + x * 2 ^ r % W64 < W64 := by
    have h3 : x % 2 ^ (64 - r) + 1 ≤ 2 ^ (64 - r) := Nat.mod_lt _ (Nat.two_pow_pos _)
    have h4 := Nat.mul_le_mul_left (2 ^ r) h3
    rw [← hs, Nat.mul_add] at h4
    rw [hm]; omega
  have hd1 : (c + x * 2 ^ r) % W64 = c + x * 2 ^ r % W64 := by
    rw [Nat.add_mod, Nat.mod_eq_of_lt hcW, Nat.mod_eq_of_lt hm2]
  have hd2 : (c + x * 2 ^ r) / W64 = x / 2 ^ (64 - r) := by
    have h5 : x * 2 ^ r / W64 = x / 2 ^ (64 - r) := by
      rw [hs, Nat.mul_comm x, Nat.mul_div_mul_left _ _ (Nat.two_pow_pos r)]
    have h6 := Nat.div_add_mod (x * 2 ^ r) W64
    rw [← h6, ← Nat.add_assoc, Nat.add_comm c, Nat.add_assoc, Nat.mul_add_div W64_pos, Nat.div_eq_of_lt hm2, Nat.add_zero, h5]
  rw [← hd1, ← hd2]
  refine pad_step hM hy2 hcW ?_
  have h7 : (x + 1) * 2 ^ r ≤ W64 * W64 := Nat.mul_le_mul hx hrW
  have h8 : (x + 1) * 2 ^ r = x * 2 ^ r + 2 ^ r := by rw [Nat.add_mul, Nat.one_mul]
  omega
theorem or_shl (c x r : Nat) (hc : c < 2 ^ r) (hr : r < 64) :
    bits BinOp.or IntKind.u64 (c : Int) (IntKind.u64.wrap ((x : Int) * 2 ^ r)) = ((c + x * 2 ^ r % W64 : Nat) : Int) := by
  have e2 : IntKind.u64.wrap ((x : Int) * 2 ^ r) = ((x * 2 ^ r % W64 : Nat) : Int) := by
    rw [IntKind.wrap_u64, W64_eq]
    have e4 : (2 : Int) ^ r = ((2 ^ r : Nat) : Int) := by simp
    rw [e4, ← Int.natCast_mul]
    have e5 : (18446744073709551616 : Int) = ((18446744073709551616 : Nat) : Int) := rfl
    rw [e5, ← Int.natCast_emod]
  have h2 : c < 18446744073709551616 := Nat.lt_of_lt_of_le hc (Nat.pow_le_pow_right (n := 2) (by omega) (show r ≤ 64 by omega))
  have h3 : x * 2 ^ r % W64 < 18446744073709551616 := by
    have := Nat.mod_lt (x * 2 ^ r) W64_pos
    rwa [W64_eq] at this ⊢
  have hm : x * 2 ^ r % W64 = 2 ^ r * (x % 2 ^ (64 - r)) := by
    rw [W_split (r := r) (by omega), Nat.mul_comm x, Nat.mul_mod_mul_left]
  rw [e2, bits_or_u64_nat _ _ h2 h3, hm, Nat.or_comm, ← Nat.two_pow_add_eq_or_of_lt hc, Nat.add_comm]
theorem shr_two (x r : Nat) (hr : r < 64) : ((x : Int) / 2) / 2 ^ (63 - r) = ((x / 2 ^ (64 - r) : Nat) : Int) := by
  have hp : 2 ^ (64 - r) = 2 * 2 ^ (63 - r) := by rw [← Nat.pow_succ']; congr 1; omega
  rw [hp, ← Nat.div_div_eq_div_mul]
  simp
/-- The carry into limb i of a + b. -/
def car (a b i : Nat) : Nat := (a % W64 ^ i + b % W64 ^ i) / W64 ^ i
theorem car_zero (a b : Nat) : car a b 0 = 0 := by simp [car, Nat.mod_one]
theorem car_le (a b i : Nat) : car a b i ≤ 1 := by
  have h1 := Nat.mod_lt a (Nat.pow_pos W64_pos (n := i))
  have h2 := Nat.mod_lt b (Nat.pow_pos W64_pos (n := i))
  have : car a b i < 2 := by
    unfold car
    rw [Nat.div_lt_iff_lt_mul (Nat.pow_pos W64_pos)]; omega
  omega
theorem add_low (a b i : Nat) : (a + b) / W64 ^ i = a / W64 ^ i + b / W64 ^ i + car a b i := by
  have hp := Nat.pow_pos W64_pos (n := i)
  have h1 := Nat.div_add_mod a (W64 ^ i)
  have h2 := Nat.div_add_mod b (W64 ^ i)
  unfold car
  conv => lhs; rw [← h1, ← h2]
  have e : W64 ^ i * (a / W64 ^ i) + a % W64 ^ i + (W64 ^ i * (b / W64 ^ i) + b % W64 ^ i) = W64 ^ i * (a / W64 ^ i + b / W64 ^ i) + (a % W64 ^ i + b % W64 ^ i) := by rw [Nat.mul_add]; omega
  rw [e, Nat.mul_add_div hp]
theorem car_succ (a b i : Nat) : car a b (i + 1) = (a / W64 ^ i % W64 + b / W64 ^ i % W64 + car a b i) / W64 := by
  have h1 := add_low a b (i + 1)
  have h2 := add_low a b i
  have e : ∀ z, z / W64 ^ (i + 1) = z / W64 ^ i / W64 := fun z => by rw [Nat.pow_succ, Nat.div_div_eq_div_mul]
  rw [e, e, e, h2] at h1
  generalize a / W64 ^ i = x at *
  generalize b / W64 ^ i = y at *
  generalize car a b i = c at *
  have hx := Nat.div_add_mod x W64
  have hy := Nat.div_add_mod y W64
  have e2 : x + y + c = W64 * (x / W64 + y / W64) + (x % W64 + y % W64 + c) := by rw [Nat.mul_add]; omega
  rw [e2, Nat.mul_add_div W64_pos] at h1
  omega
theorem add_limb (a b i : Nat) : (a / W64 ^ i % W64 + b / W64 ^ i % W64 + car a b i) % W64 = (a + b) / W64 ^ i % W64 := by
  rw [add_low, Nat.add_mod (a / W64 ^ i + b / W64 ^ i), Nat.add_mod (a / W64 ^ i), Nat.mod_add_mod, Nat.add_mod_mod]
theorem car_top {a b n : Nat} (ha : a < W64 ^ n) (hb : b < W64 ^ n) : car a b n = (a + b) / W64 ^ n % W64 := by
  have h := car_le a b n
  have hp := Nat.pow_pos W64_pos (n := n)
  rw [add_low, Nat.div_eq_of_lt ha, Nat.div_eq_of_lt hb, Nat.zero_add]
  exact (Nat.mod_eq_of_lt (by rw [W64_eq]; omega)).symm
theorem add_word (a b k : Nat) : (a / W64 ^ k % W64 + b / W64 ^ k % W64 + car a b k) % 18446744073709551616 = (a + b) / W64 ^ k % W64 ∧ (a / W64 ^ k % W64 + b / W64 ^ k % W64 + car a b k) / 18446744073709551616 = car a b (k + 1) := by
  rw [car_succ, ← add_limb, W64_num]; exact ⟨rfl, rfl⟩
end Go.Proofs.YtibjogbalmbeeaaGreatDoor
