/- Plain facts on limbs: a natural as a list of words, the least first. No program in sight. -/
namespace Go.Proofs.YtooehlneoboenaaGreatDoor

def W64 : Nat := 18446744073709551616
theorem W64_eq : W64 = 2 ^ 64 := by decide
theorem W64_pos : 0 < W64 := by decide
theorem W64_pow (n : Nat) : W64 ^ n = 2 ^ (64 * n) := by rw [W64_eq, ← Nat.pow_mul]
attribute [irreducible] W64

/-- The element at j, nought behind the end. -/
def el (l : List Nat) (j : Nat) : Nat := l.getD j 0
/-- The number of the limbs. -/
def vl : List Nat → Nat
  | [] => 0
  | x :: t => x + W64 * vl t
/-- The limbs of a number. -/
def toL (a : Nat) : List Nat := if _h : a = 0 then [] else a % W64 :: toL (a / W64)
termination_by a
decreasing_by exact Nat.div_lt_self (by omega) (by rw [W64_eq]; decide)
/-- All are words. -/
def Wd (l : List Nat) : Prop := ∀ x ∈ l, x < W64
/-- The lowest m limbs of a number. -/
def pad (m x : Nat) : List Nat := (List.range m).map fun i => x / W64 ^ i % W64

theorem toL_zero : toL 0 = [] := by rw [toL]; simp
theorem toL_pos {a : Nat} (h : a ≠ 0) : toL a = a % W64 :: toL (a / W64) := by rw [toL, dif_neg h]
theorem el_nil (j : Nat) : el [] j = 0 := by simp [el]
theorem el_cons_zero (x : Nat) (t : List Nat) : el (x :: t) 0 = x := by simp [el]
theorem el_cons_succ (x : Nat) (t : List Nat) (j : Nat) : el (x :: t) (j + 1) = el t j := by simp [el]
theorem el_lt {l : List Nat} (h : Wd l) (j : Nat) : el l j < W64 := by
  unfold el
  by_cases hj : j < l.length
  · simp only [List.getD_eq_getElem?_getD, List.getElem?_eq_getElem hj, Option.getD_some]
    exact h _ (List.getElem_mem hj)
  · simp only [List.getD_eq_getElem?_getD, List.getElem?_eq_none (Nat.le_of_not_lt hj), Option.getD_none]
    exact W64_pos
theorem el_out {l : List Nat} {j : Nat} (h : l.length ≤ j) : el l j = 0 := by
  simp [el, List.getD_eq_getElem?_getD, List.getElem?_eq_none h]
theorem el_get {l : List Nat} {j : Nat} (h : j < l.length) : el l j = l[j] := by
  simp [el, List.getD_eq_getElem?_getD, List.getElem?_eq_getElem h]
theorem list_ext {l m : List Nat} (hl : l.length = m.length) (h : ∀ j, j < l.length → el l j = el m j) : l = m := by
  apply List.ext_getElem hl
  intro i h1 h2
  have := h i h1
  rwa [el_get h1, el_get h2] at this
theorem Wd_nil : Wd [] := fun x h => by simp at h
theorem Wd_cons {x : Nat} {t : List Nat} : Wd (x :: t) ↔ x < W64 ∧ Wd t := by simp [Wd]
theorem Wd_toL (a : Nat) : Wd (toL a) := by
  induction a using Nat.strongRecOn with
  | _ a ih =>
    by_cases h : a = 0
    · rw [h, toL_zero]; exact Wd_nil
    · rw [toL_pos h, Wd_cons]
      exact ⟨Nat.mod_lt _ W64_pos, ih _ (Nat.div_lt_self (by omega) (by rw [W64_eq]; decide))⟩
theorem vl_toL (a : Nat) : vl (toL a) = a := by
  induction a using Nat.strongRecOn with
  | _ a ih =>
    by_cases h : a = 0
    · rw [h, toL_zero]; rfl
    · rw [toL_pos h, vl, ih _ (Nat.div_lt_self (by omega) (by rw [W64_eq]; decide))]
      exact Nat.mod_add_div a W64
theorem el_toL (a j : Nat) : el (toL a) j = a / W64 ^ j % W64 := by
  induction j generalizing a with
  | zero =>
    by_cases h : a = 0
    · rw [h, toL_zero, el_nil]; simp
    · rw [toL_pos h, el_cons_zero]; simp
  | succ j ih =>
    by_cases h : a = 0
    · rw [h, toL_zero, el_nil]; simp
    · rw [toL_pos h, el_cons_succ, ih, Nat.pow_succ, Nat.div_div_eq_div_mul, Nat.mul_comm (W64 ^ j)]
theorem toL_length_le (a n : Nat) : (toL a).length ≤ n ↔ a < W64 ^ n := by
  induction n generalizing a with
  | zero =>
    by_cases h : a = 0
    · rw [h, toL_zero]; simp
    · rw [toL_pos h]; simp; omega
  | succ n ih =>
    by_cases h : a = 0
    · rw [h, toL_zero]; simp; exact Nat.pow_pos W64_pos
    · rw [toL_pos h, List.length_cons, Nat.succ_le_succ_iff, ih, Nat.pow_succ, Nat.div_lt_iff_lt_mul W64_pos]
theorem toL_length_zero (a : Nat) : (toL a).length = 0 ↔ a = 0 := by
  by_cases h : a = 0
  · rw [h, toL_zero]; simp
  · rw [toL_pos h]; simp [h]
theorem toL_last {a : Nat} (h : a ≠ 0) : el (toL a) ((toL a).length - 1) ≠ 0 := by
  induction a using Nat.strongRecOn with
  | _ a ih =>
    rw [toL_pos h, List.length_cons]
    by_cases h2 : a / W64 = 0
    · rw [h2, toL_zero]
      simp only [List.length_nil, Nat.zero_add, Nat.sub_self, el_cons_zero]
      rw [Nat.mod_eq_of_lt ((Nat.div_eq_zero_iff_lt W64_pos).1 h2)]; exact h
    · have h3 := ih _ (Nat.div_lt_self (by omega) (by rw [W64_eq]; decide)) h2
      have h4 : (toL (a / W64)).length ≠ 0 := fun e => h2 ((toL_length_zero _).1 e)
      obtain ⟨m, hm⟩ : ∃ m, (toL (a / W64)).length = m + 1 := ⟨(toL (a / W64)).length - 1, by omega⟩
      rw [hm] at h3 ⊢
      simpa [el_cons_succ] using h3
theorem vl_zero_of {l : List Nat} (h : ∀ j, j < l.length → el l j = 0) : vl l = 0 := by
  induction l with
  | nil => rfl
  | cons x t ih =>
    have h0 : x = 0 := by simpa [el_cons_zero] using h 0 (by simp)
    have ht := ih fun j hj => by simpa [el_cons_succ] using h (j + 1) (by simp; omega)
    simp [vl, h0, ht]
theorem toL_vl_of {l : List Nat} (hw : Wd l) (h : l = [] ∨ el l (l.length - 1) ≠ 0) : toL (vl l) = l := by
  induction l with
  | nil => simp [vl, toL_zero]
  | cons x t ih =>
    have ⟨hx, ht⟩ := Wd_cons.1 hw
    have hlast : el (x :: t) t.length ≠ 0 := by
      rcases h with h | h
      · cases h
      · simpa using h
    have hne : vl (x :: t) ≠ 0 := by
      cases t with
      | nil => simp only [List.length_nil, el_cons_zero] at hlast; simp [vl, hlast]
      | cons y u =>
        have h2 : y :: u = [] ∨ el (y :: u) ((y :: u).length - 1) ≠ 0 := .inr (by simpa [el_cons_succ] using hlast)
        have h3 := ih ht h2
        have h4 : vl (y :: u) ≠ 0 := fun e => by rw [e, toL_zero] at h3; cases h3
        intro e
        have e2 : x + W64 * vl (y :: u) = 0 := e
        have := W64_pos
        have : W64 * vl (y :: u) = 0 := by omega
        rcases Nat.mul_eq_zero.1 this with h5 | h5 <;> omega
    have hm : vl (x :: t) % W64 = x := by simp [vl, Nat.add_mul_mod_self_left, Nat.mod_eq_of_lt hx]
    have hd : vl (x :: t) / W64 = vl t := by simp only [vl]; rw [Nat.add_mul_div_left _ _ W64_pos, Nat.div_eq_of_lt hx, Nat.zero_add]
    rw [toL_pos hne, hm, hd]
    congr 1
    apply ih ht
    cases t with
    | nil => exact .inl rfl
    | cons y u => exact .inr (by simpa [el_cons_succ] using hlast)
theorem vl_append_zero (l : List Nat) (n : Nat) : vl (l ++ List.replicate n 0) = vl l := by
  induction l with
  | nil =>
    refine vl_zero_of fun j hj => ?_
    simp at hj
    simp [el, List.getD_eq_getElem?_getD, hj]
  | cons x t ih => simp [vl, ih]
/-- The limbs below n without the noughts at their end. -/
def trimTo (l : List Nat) : Nat → List Nat
  | 0 => []
  | n + 1 => if el l n = 0 then trimTo l n else l.take (n + 1)
theorem el_take {l : List Nat} {n j : Nat} (h : j < n) : el (l.take n) j = el l j := by
  simp [el, List.getD_eq_getElem?_getD, h]
theorem Wd_take {l : List Nat} (h : Wd l) (n : Nat) : Wd (l.take n) := fun x hx => h x (List.mem_of_mem_take hx)
theorem vl_take_succ {l : List Nat} {n : Nat} (hn : n < l.length) (hz : el l n = 0) : vl (l.take (n + 1)) = vl (l.take n) := by
  have e : l.take (n + 1) = l.take n ++ List.replicate 1 0 := by
    rw [List.take_succ_eq_append_getElem hn]
    have : l[n] = 0 := by rwa [el_get hn] at hz
    simp [this]
  rw [e, vl_append_zero]
theorem trimTo_eq {l : List Nat} (hw : Wd l) (n : Nat) (hn : n ≤ l.length) : trimTo l n = toL (vl (l.take n)) := by
  induction n with
  | zero => simp [trimTo, vl, toL_zero]
  | succ n ih =>
    rw [trimTo]
    by_cases hz : el l n = 0
    · rw [if_pos hz, ih (by omega), vl_take_succ (by omega) hz]
    · rw [if_neg hz]
      refine (toL_vl_of (Wd_take hw _) (.inr ?_)).symm
      have e : (l.take (n + 1)).length - 1 = n := by simp; omega
      rw [e, el_take (by omega)]; exact hz
theorem trimTo_take {l : List Nat} (n : Nat) (hn : n ≤ l.length) : trimTo l n = l.take (trimTo l n).length := by
  induction n with
  | zero => simp [trimTo]
  | succ n ih =>
    rw [trimTo]
    by_cases hz : el l n = 0
    · rw [if_pos hz]; exact ih (by omega)
    · rw [if_neg hz]; simp
theorem pad_length (m x : Nat) : (pad m x).length = m := by simp [pad]
theorem el_pad {m x j : Nat} (h : j < m) : el (pad m x) j = x / W64 ^ j % W64 := by
  rw [el_get (by rw [pad_length]; exact h)]
  simp [pad]
theorem Wd_pad (m x : Nat) : Wd (pad m x) := by
  intro y hy
  simp only [pad, List.mem_map] at hy
  obtain ⟨i, _, rfl⟩ := hy
  exact Nat.mod_lt _ W64_pos
theorem pad_succ' (m x : Nat) : pad (m + 1) x = x % W64 :: pad m (x / W64) := by
  apply list_ext
  · simp [pad_length]
  · intro j hj
    rw [pad_length] at hj
    rw [el_pad hj]
    cases j with
    | zero => simp [el_cons_zero]
    | succ j => rw [el_cons_succ, el_pad (by omega), Nat.pow_succ, Nat.div_div_eq_div_mul, Nat.mul_comm (W64 ^ j)]
theorem vl_pad (m x : Nat) : vl (pad m x) = x % W64 ^ m := by
  induction m generalizing x with
  | zero => simp [pad, vl, Nat.mod_one]
  | succ m ih =>
    rw [pad_succ', vl, ih, Nat.pow_succ, Nat.mul_comm (W64 ^ m), Nat.mod_mul]
theorem vl_pad_of {m x : Nat} (h : x < W64 ^ m) : vl (pad m x) = x := by rw [vl_pad, Nat.mod_eq_of_lt h]
theorem vl_lt {l : List Nat} (h : Wd l) : vl l < W64 ^ l.length := by
  induction l with
  | nil => simp [vl]
  | cons x t ih =>
    have ⟨hx, ht⟩ := Wd_cons.1 h
    have := ih ht
    rw [vl, List.length_cons, Nat.pow_succ, Nat.mul_comm (W64 ^ _)]
    calc x + W64 * vl t < W64 + W64 * vl t := by omega
      _ = W64 * (vl t + 1) := by rw [Nat.mul_add]; omega
      _ ≤ W64 * W64 ^ t.length := Nat.mul_le_mul_left _ (by omega)
theorem el_vl {l : List Nat} (h : Wd l) (j : Nat) : el l j = vl l / W64 ^ j % W64 := by
  induction l generalizing j with
  | nil => simp [el_nil, vl]
  | cons x t ih =>
    have ⟨hx, ht⟩ := Wd_cons.1 h
    cases j with
    | zero => simp [el_cons_zero, vl, Nat.add_mul_mod_self_left, Nat.mod_eq_of_lt hx]
    | succ j =>
      rw [el_cons_succ, ih ht, Nat.pow_succ, Nat.mul_comm (W64 ^ j), ← Nat.div_div_eq_div_mul, vl, Nat.add_mul_div_left _ _ W64_pos, Nat.div_eq_of_lt hx, Nat.zero_add]
theorem pad_vl {l : List Nat} (h : Wd l) : pad l.length (vl l) = l := by
  apply list_ext (pad_length _ _)
  intro j hj
  rw [pad_length] at hj
  rw [el_pad hj, el_vl h]
theorem pad_toL {a m : Nat} (h : (toL a).length = m) : pad m a = toL a := by
  have := pad_vl (Wd_toL a)
  rwa [vl_toL, h] at this
/-- The first i limbs of x, noughts up to m. -/
def fil (m i x : Nat) : List Nat := pad i x ++ List.replicate (m - i) 0
theorem fil_length {m i x : Nat} (h : i ≤ m) : (fil m i x).length = m := by simp [fil, pad_length]; omega
theorem fil_zero (m x : Nat) : fil m 0 x = List.replicate m 0 := by simp [fil, pad]
theorem fil_full (m x : Nat) : fil m m x = pad m x := by simp [fil]
theorem el_fil {m i x j : Nat} : el (fil m i x) j = if j < i then x / W64 ^ j % W64 else 0 := by
  by_cases h : j < i
  · have e : el (fil m i x) j = el (pad i x) j := by
      simp [el, fil, List.getD_eq_getElem?_getD, List.getElem?_append_left (show j < (pad i x).length by rw [pad_length]; exact h)]
    rw [if_pos h, e, el_pad h]
  · rw [if_neg h]
    simp only [el, fil, List.getD_eq_getElem?_getD]
    rw [List.getElem?_append_right (by rw [pad_length]; omega)]
    simp only [List.getElem?_replicate]
    split <;> rfl
theorem el_set {l : List Nat} {i j v : Nat} (h : i < l.length) : el (l.set i v) j = if j = i then v else el l j := by
  simp only [el, List.getD_eq_getElem?_getD, List.getElem?_set]
  by_cases e : i = j
  · subst e; simp [h]
  · simp [e, Ne.symm e]
theorem fil_set {m i x v : Nat} (h : i < m) (hv : v = x / W64 ^ i % W64) : (fil m i x).set i v = fil m (i + 1) x := by
  have hl : (fil m i x).length = m := fil_length (by omega)
  apply list_ext
  · rw [List.length_set, hl, fil_length (by omega)]
  · intro j hj
    rw [el_set (by rw [hl]; exact h), el_fil, el_fil]
    by_cases e : j = i
    · subst e; simp [hv]
    · rw [if_neg e]
      by_cases h1 : j < i
      · rw [if_pos h1, if_pos (by omega)]
      · rw [if_neg h1, if_neg (by omega)]
end Go.Proofs.YtooehlneoboenaaGreatDoor
