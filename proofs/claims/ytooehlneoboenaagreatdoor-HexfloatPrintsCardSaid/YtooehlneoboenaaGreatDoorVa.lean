/- Plain facts on digits of 32 bits: a natural as a list of them, the least first (turned from the limbs' facts by gen_v.py). No program in sight. -/
import Derived.Test.YtooehlneoboenaaGreatDoorPe
namespace Go.Proofs.YtooehlneoboenaaGreatDoor
def W32 : Nat := 4294967296
theorem W32_eq : W32 = 2 ^ 32 := by decide
theorem W32_pos : 0 < W32 := by decide
theorem W32_pow (n : Nat) : W32 ^ n = 2 ^ (32 * n) := by rw [W32_eq, ← Nat.pow_mul]
attribute [irreducible] W32

def vd : List Nat → Nat
  | [] => 0
  | x :: t => x + W32 * vd t
def toD (a : Nat) : List Nat := if _h : a = 0 then [] else a % W32 :: toD (a / W32)
termination_by a
decreasing_by exact Nat.div_lt_self (by omega) (by rw [W32_eq]; decide)
def We (l : List Nat) : Prop := ∀ x ∈ l, x < W32
def paD (m x : Nat) : List Nat := (List.range m).map fun i => x / W32 ^ i % W32

theorem toD_zero : toD 0 = [] := by rw [toD]; simp
theorem toD_pos {a : Nat} (h : a ≠ 0) : toD a = a % W32 :: toD (a / W32) := by rw [toD, dif_neg h]
theorem eD_lt {l : List Nat} (h : We l) (j : Nat) : el l j < W32 := by
  unfold el
  by_cases hj : j < l.length
  · simp only [List.getD_eq_getElem?_getD, List.getElem?_eq_getElem hj, Option.getD_some]
    exact h _ (List.getElem_mem hj)
  · simp only [List.getD_eq_getElem?_getD, List.getElem?_eq_none (Nat.le_of_not_lt hj), Option.getD_none]
    exact W32_pos
theorem We_nil : We [] := fun x h => by simp at h
theorem We_cons {x : Nat} {t : List Nat} : We (x :: t) ↔ x < W32 ∧ We t := by simp [We]
theorem We_toD (a : Nat) : We (toD a) := by
  induction a using Nat.strongRecOn with
  | _ a ih =>
    by_cases h : a = 0
    · rw [h, toD_zero]; exact We_nil
    · rw [toD_pos h, We_cons]
      exact ⟨Nat.mod_lt _ W32_pos, ih _ (Nat.div_lt_self (by omega) (by rw [W32_eq]; decide))⟩
theorem vd_toD (a : Nat) : vd (toD a) = a := by
  induction a using Nat.strongRecOn with
  | _ a ih =>
    by_cases h : a = 0
    · rw [h, toD_zero]; rfl
    · rw [toD_pos h, vd, ih _ (Nat.div_lt_self (by omega) (by rw [W32_eq]; decide))]
      exact Nat.mod_add_div a W32
theorem el_toD (a j : Nat) : el (toD a) j = a / W32 ^ j % W32 := by
  induction j generalizing a with
  | zero =>
    by_cases h : a = 0
    · rw [h, toD_zero, el_nil]; simp
    · rw [toD_pos h, el_cons_zero]; simp
  | succ j ih =>
    by_cases h : a = 0
    · rw [h, toD_zero, el_nil]; simp
    · rw [toD_pos h, el_cons_succ, ih, Nat.pow_succ, Nat.div_div_eq_div_mul, Nat.mul_comm (W32 ^ j)]
theorem toD_length_le (a n : Nat) : (toD a).length ≤ n ↔ a < W32 ^ n := by
  induction n generalizing a with
  | zero =>
    by_cases h : a = 0
    · rw [h, toD_zero]; simp
    · rw [toD_pos h]; simp; omega
  | succ n ih =>
    by_cases h : a = 0
    · rw [h, toD_zero]; simp; exact Nat.pow_pos W32_pos
    · rw [toD_pos h, List.length_cons, Nat.succ_le_succ_iff, ih, Nat.pow_succ, Nat.div_lt_iff_lt_mul W32_pos]
theorem toD_length_zero (a : Nat) : (toD a).length = 0 ↔ a = 0 := by
  by_cases h : a = 0
  · rw [h, toD_zero]; simp
  · rw [toD_pos h]; simp [h]
theorem toD_last {a : Nat} (h : a ≠ 0) : el (toD a) ((toD a).length - 1) ≠ 0 := by
  induction a using Nat.strongRecOn with
  | _ a ih =>
    rw [toD_pos h, List.length_cons]
    by_cases h2 : a / W32 = 0
    · rw [h2, toD_zero]
      simp only [List.length_nil, Nat.zero_add, Nat.sub_self, el_cons_zero]
      rw [Nat.mod_eq_of_lt ((Nat.div_eq_zero_iff_lt W32_pos).1 h2)]; exact h
    · have h3 := ih _ (Nat.div_lt_self (by omega) (by rw [W32_eq]; decide)) h2
      have h4 : (toD (a / W32)).length ≠ 0 := fun e => h2 ((toD_length_zero _).1 e)
      obtain ⟨m, hm⟩ : ∃ m, (toD (a / W32)).length = m + 1 := ⟨(toD (a / W32)).length - 1, by omega⟩
      rw [hm] at h3 ⊢
      simpa [el_cons_succ] using h3
theorem vd_zero_of {l : List Nat} (h : ∀ j, j < l.length → el l j = 0) : vd l = 0 := by
  induction l with
  | nil => rfl
  | cons x t ih =>
    have h0 : x = 0 := by simpa [el_cons_zero] using h 0 (by simp)
    have ht := ih fun j hj => by simpa [el_cons_succ] using h (j + 1) (by simp; omega)
    simp [vd, h0, ht]
theorem toD_vd_of {l : List Nat} (hw : We l) (h : l = [] ∨ el l (l.length - 1) ≠ 0) : toD (vd l) = l := by
  induction l with
  | nil => simp [vd, toD_zero]
  | cons x t ih =>
    have ⟨hx, ht⟩ := We_cons.1 hw
    have hlast : el (x :: t) t.length ≠ 0 := by
      rcases h with h | h
      · cases h
      · simpa using h
    have hne : vd (x :: t) ≠ 0 := by
      cases t with
      | nil => simp only [List.length_nil, el_cons_zero] at hlast; simp [vd, hlast]
      | cons y u =>
        have h2 : y :: u = [] ∨ el (y :: u) ((y :: u).length - 1) ≠ 0 := .inr (by simpa [el_cons_succ] using hlast)
        have h3 := ih ht h2
        have h4 : vd (y :: u) ≠ 0 := fun e => by rw [e, toD_zero] at h3; cases h3
        intro e
        have e2 : x + W32 * vd (y :: u) = 0 := e
        have := W32_pos
        have : W32 * vd (y :: u) = 0 := by omega
        rcases Nat.mul_eq_zero.1 this with h5 | h5 <;> omega
    have hm : vd (x :: t) % W32 = x := by simp [vd, Nat.add_mul_mod_self_left, Nat.mod_eq_of_lt hx]
    have hd : vd (x :: t) / W32 = vd t := by simp only [vd]; rw [Nat.add_mul_div_left _ _ W32_pos, Nat.div_eq_of_lt hx, Nat.zero_add]
    rw [toD_pos hne, hm, hd]
    congr 1
    apply ih ht
    cases t with
    | nil => exact .inl rfl
    | cons y u => exact .inr (by simpa [el_cons_succ] using hlast)
theorem vd_append_zero (l : List Nat) (n : Nat) : vd (l ++ List.replicate n 0) = vd l := by
  induction l with
  | nil =>
    refine vd_zero_of fun j hj => ?_
    simp at hj
    simp [el, List.getD_eq_getElem?_getD, hj]
  | cons x t ih => simp [vd, ih]
def trimD (l : List Nat) : Nat → List Nat
  | 0 => []
  | n + 1 => if el l n = 0 then trimD l n else l.take (n + 1)
theorem We_take {l : List Nat} (h : We l) (n : Nat) : We (l.take n) := fun x hx => h x (List.mem_of_mem_take hx)
theorem vd_take_succ {l : List Nat} {n : Nat} (hn : n < l.length) (hz : el l n = 0) : vd (l.take (n + 1)) = vd (l.take n) := by
  have e : l.take (n + 1) = l.take n ++ List.replicate 1 0 := by
    rw [List.take_succ_eq_append_getElem hn]
    have : l[n] = 0 := by rwa [el_get hn] at hz
    simp [this]
  rw [e, vd_append_zero]
theorem trimD_eq {l : List Nat} (hw : We l) (n : Nat) (hn : n ≤ l.length) : trimD l n = toD (vd (l.take n)) := by
  induction n with
  | zero => simp [trimD, vd, toD_zero]
  | succ n ih =>
    rw [trimD]
    by_cases hz : el l n = 0
    · rw [if_pos hz, ih (by omega), vd_take_succ (by omega) hz]
    · rw [if_neg hz]
      refine (toD_vd_of (We_take hw _) (.inr ?_)).symm
      have e : (l.take (n + 1)).length - 1 = n := by simp; omega
      rw [e, el_take (by omega)]; exact hz
theorem trimD_take {l : List Nat} (n : Nat) (hn : n ≤ l.length) : trimD l n = l.take (trimD l n).length := by
  induction n with
  | zero => simp [trimD]
  | succ n ih =>
    rw [trimD]
    by_cases hz : el l n = 0
    · rw [if_pos hz]; exact ih (by omega)
    · rw [if_neg hz]; simp
theorem paD_length (m x : Nat) : (paD m x).length = m := by simp [paD]
theorem el_paD {m x j : Nat} (h : j < m) : el (paD m x) j = x / W32 ^ j % W32 := by
  rw [el_get (by rw [paD_length]; exact h)]
  simp [paD]
theorem We_paD (m x : Nat) : We (paD m x) := by
  intro y hy
  simp only [paD, List.mem_map] at hy
  obtain ⟨i, _, rfl⟩ := hy
  exact Nat.mod_lt _ W32_pos
theorem paD_succ' (m x : Nat) : paD (m + 1) x = x % W32 :: paD m (x / W32) := by
  apply list_ext
  · simp [paD_length]
  · intro j hj
    rw [paD_length] at hj
    rw [el_paD hj]
    cases j with
    | zero => simp [el_cons_zero]
    | succ j => rw [el_cons_succ, el_paD (by omega), Nat.pow_succ, Nat.div_div_eq_div_mul, Nat.mul_comm (W32 ^ j)]
theorem vd_paD (m x : Nat) : vd (paD m x) = x % W32 ^ m := by
  induction m generalizing x with
  | zero => simp [paD, vd, Nat.mod_one]
  | succ m ih =>
    rw [paD_succ', vd, ih, Nat.pow_succ, Nat.mul_comm (W32 ^ m), Nat.mod_mul]
theorem vd_paD_of {m x : Nat} (h : x < W32 ^ m) : vd (paD m x) = x := by rw [vd_paD, Nat.mod_eq_of_lt h]
theorem vd_lt {l : List Nat} (h : We l) : vd l < W32 ^ l.length := by
  induction l with
  | nil => simp [vd]
  | cons x t ih =>
    have ⟨hx, ht⟩ := We_cons.1 h
    have := ih ht
    rw [vd, List.length_cons, Nat.pow_succ, Nat.mul_comm (W32 ^ _)]
    calc x + W32 * vd t < W32 + W32 * vd t := by omega
      _ = W32 * (vd t + 1) := by rw [Nat.mul_add]; omega
      _ ≤ W32 * W32 ^ t.length := Nat.mul_le_mul_left _ (by omega)
theorem el_vd {l : List Nat} (h : We l) (j : Nat) : el l j = vd l / W32 ^ j % W32 := by
  induction l generalizing j with
  | nil => simp [el_nil, vd]
  | cons x t ih =>
    have ⟨hx, ht⟩ := We_cons.1 h
    cases j with
    | zero => simp [el_cons_zero, vd, Nat.add_mul_mod_self_left, Nat.mod_eq_of_lt hx]
    | succ j =>
      rw [el_cons_succ, ih ht, Nat.pow_succ, Nat.mul_comm (W32 ^ j), ← Nat.div_div_eq_div_mul, vd, Nat.add_mul_div_left _ _ W32_pos, Nat.div_eq_of_lt hx, Nat.zero_add]
theorem paD_vd {l : List Nat} (h : We l) : paD l.length (vd l) = l := by
  apply list_ext (paD_length _ _)
  intro j hj
  rw [paD_length] at hj
  rw [el_paD hj, el_vd h]
theorem paD_toD {a m : Nat} (h : (toD a).length = m) : paD m a = toD a := by
  have := paD_vd (We_toD a)
  rwa [vd_toD, h] at this
def fiD (m i x : Nat) : List Nat := paD i x ++ List.replicate (m - i) 0
theorem fiD_length {m i x : Nat} (h : i ≤ m) : (fiD m i x).length = m := by simp [fiD, paD_length]; omega
theorem fiD_zero (m x : Nat) : fiD m 0 x = List.replicate m 0 := by simp [fiD, paD]
theorem fiD_full (m x : Nat) : fiD m m x = paD m x := by simp [fiD]
theorem el_fiD {m i x j : Nat} : el (fiD m i x) j = if j < i then x / W32 ^ j % W32 else 0 := by
  by_cases h : j < i
  · have e : el (fiD m i x) j = el (paD i x) j := by
      simp [el, fiD, List.getD_eq_getElem?_getD, List.getElem?_append_left (show j < (paD i x).length by rw [paD_length]; exact h)]
    rw [if_pos h, e, el_paD h]
  · rw [if_neg h]
    simp only [el, fiD, List.getD_eq_getElem?_getD]
    rw [List.getElem?_append_right (by rw [paD_length]; omega)]
    simp only [List.getElem?_replicate]
    split <;> rfl
theorem fiD_set {m i x v : Nat} (h : i < m) (hv : v = x / W32 ^ i % W32) : (fiD m i x).set i v = fiD m (i + 1) x := by
  have hl : (fiD m i x).length = m := fiD_length (by omega)
  apply list_ext
  · rw [List.length_set, hl, fiD_length (by omega)]
  · intro j hj
    rw [el_set (by rw [hl]; exact h), el_fiD, el_fiD]
    by_cases e : j = i
    · subst e; simp [hv]
    · rw [if_neg e]
      by_cases h1 : j < i
      · rw [if_pos h1, if_pos (by omega)]
      · rw [if_neg h1, if_neg (by omega)]

theorem toD_top {a : Nat} (h : a ≠ 0) : el (toD a) ((toD a).length - 1) = a / W32 ^ ((toD a).length - 1) := by
  rw [el_toD]
  apply Nat.mod_eq_of_lt
  rw [Nat.div_lt_iff_lt_mul (Nat.pow_pos W32_pos), Nat.mul_comm, ← Nat.pow_succ]
  have h1 : (toD a).length ≠ 0 := fun e => h ((toD_length_zero a).1 e)
  have : (toD a).length - 1 + 1 = (toD a).length := by omega
  rw [Nat.succ_eq_add_one, this]
  exact (toD_length_le a _).1 (Nat.le_refl _)
theorem blen_digs {a : Nat} (h : a ≠ 0) : blen a = 32 * ((toD a).length - 1) + blen (el (toD a) ((toD a).length - 1)) := by
  have ht := toD_top h
  have hl := toD_last h
  generalize (toD a).length - 1 = n at *
  rw [ht] at hl ⊢
  rw [W32_pow] at hl ⊢
  have h1 := blen_lo hl
  have h2 := blen_hi (a / 2 ^ (32 * n))
  have h3 := blen_pos hl
  have e : 32 * n + blen (a / 2 ^ (32 * n)) = (32 * n + (blen (a / 2 ^ (32 * n)) - 1)) + 1 := by omega
  rw [e]
  generalize blen (a / 2 ^ (32 * n)) = b at *
  apply blen_of
  · rw [Nat.pow_add]
    calc 2 ^ (32 * n) * 2 ^ (b - 1) ≤ 2 ^ (32 * n) * (a / 2 ^ (32 * n)) := Nat.mul_le_mul_left _ h1
      _ ≤ a := Nat.mul_div_le _ _
  · have e2 : 32 * n + (b - 1) + 1 = b + 32 * n := by omega
    rw [e2, Nat.pow_add]
    exact (Nat.div_lt_iff_lt_mul (Nat.two_pow_pos _)).1 h2
theorem toD_length (a : Nat) : (toD a).length = (blen a + 31) / 32 := by
  by_cases h : a = 0
  · subst h; simp [toD_zero, blen_zero]
  · have h1 := blen_digs h
    have h2 := blen_pos (toD_last h)
    have h3 : blen (el (toD a) ((toD a).length - 1)) ≤ 32 := blen_le.2 (by rw [← W32_eq]; exact eD_lt (We_toD a) _)
    have h4 : (toD a).length ≠ 0 := fun e => h ((toD_length_zero a).1 e)
    omega
theorem W32_num : W32 = 4294967296 := by rw [W32_eq]
theorem lowD_high {p c y : Nat} (hy : y < W32 ^ p) : (W32 ^ p * c + y) / W32 ^ p = c := by
  rw [Nat.mul_add_div (Nat.pow_pos W32_pos), Nat.div_eq_of_lt hy, Nat.add_zero]
theorem lowD_same {p c y j : Nat} (hj : j < p) : (W32 ^ p * c + y) / W32 ^ j % W32 = y / W32 ^ j % W32 := by
  obtain ⟨q, rfl⟩ : ∃ q, p = j + (q + 1) := ⟨p - j - 1, by omega⟩
  rw [Nat.pow_add, Nat.mul_assoc, Nat.mul_add_div (Nat.pow_pos W32_pos), Nat.pow_succ, Nat.mul_comm (W32 ^ q), Nat.mul_assoc, Nat.add_comm, Nat.add_mul_mod_self_left]
theorem el_paD_at {M p c y : Nat} (hp : p < M) (hy : y < W32 ^ p) : el (paD M (W32 ^ p * c + y)) p = c % W32 := by
  rw [el_paD hp, lowD_high hy]
theorem modD_pow_succ (a i : Nat) : a % W32 ^ (i + 1) = W32 ^ i * (a / W32 ^ i % W32) + a % W32 ^ i := by
  rw [Nat.pow_succ, Nat.mod_mul]; omega
def caD (a b i : Nat) : Nat := (a % W32 ^ i + b % W32 ^ i) / W32 ^ i
theorem caD_zero (a b : Nat) : caD a b 0 = 0 := by simp [caD, Nat.mod_one]
theorem caD_le (a b i : Nat) : caD a b i ≤ 1 := by
  have h1 := Nat.mod_lt a (Nat.pow_pos W32_pos (n := i))
  have h2 := Nat.mod_lt b (Nat.pow_pos W32_pos (n := i))
  have : caD a b i < 2 := by
    unfold caD
    rw [Nat.div_lt_iff_lt_mul (Nat.pow_pos W32_pos)]; omega
  omega
theorem addD_low (a b i : Nat) : (a + b) / W32 ^ i = a / W32 ^ i + b / W32 ^ i + caD a b i := by
  have hp := Nat.pow_pos W32_pos (n := i)
  have h1 := Nat.div_add_mod a (W32 ^ i)
  have h2 := Nat.div_add_mod b (W32 ^ i)
  unfold caD
  conv => lhs; rw [← h1, ← h2]
  have e : W32 ^ i * (a / W32 ^ i) + a % W32 ^ i + (W32 ^ i * (b / W32 ^ i) + b % W32 ^ i) = W32 ^ i * (a / W32 ^ i + b / W32 ^ i) + (a % W32 ^ i + b % W32 ^ i) := by rw [Nat.mul_add]; omega
  rw [e, Nat.mul_add_div hp]
theorem caD_succ (a b i : Nat) : caD a b (i + 1) = (a / W32 ^ i % W32 + b / W32 ^ i % W32 + caD a b i) / W32 := by
  have h1 := addD_low a b (i + 1)
  have h2 := addD_low a b i
  have e : ∀ z, z / W32 ^ (i + 1) = z / W32 ^ i / W32 := fun z => by rw [Nat.pow_succ, Nat.div_div_eq_div_mul]
  rw [e, e, e, h2] at h1
  generalize a / W32 ^ i = x at *
  generalize b / W32 ^ i = y at *
  generalize caD a b i = c at *
  have hx := Nat.div_add_mod x W32
  have hy := Nat.div_add_mod y W32
  have e2 : x + y + c = W32 * (x / W32 + y / W32) + (x % W32 + y % W32 + c) := by rw [Nat.mul_add]; omega
  rw [e2, Nat.mul_add_div W32_pos] at h1
  omega
theorem addD_limb (a b i : Nat) : (a / W32 ^ i % W32 + b / W32 ^ i % W32 + caD a b i) % W32 = (a + b) / W32 ^ i % W32 := by
  rw [addD_low, Nat.add_mod (a / W32 ^ i + b / W32 ^ i), Nat.add_mod (a / W32 ^ i), Nat.mod_add_mod, Nat.add_mod_mod]
theorem caD_top {a b n : Nat} (ha : a < W32 ^ n) (hb : b < W32 ^ n) : caD a b n = (a + b) / W32 ^ n % W32 := by
  have h := caD_le a b n
  have hp := Nat.pow_pos W32_pos (n := n)
  rw [addD_low, Nat.div_eq_of_lt ha, Nat.div_eq_of_lt hb, Nat.zero_add]
  exact (Nat.mod_eq_of_lt (by rw [W32_eq]; omega)).symm
theorem addD_word (a b k : Nat) : (a / W32 ^ k % W32 + b / W32 ^ k % W32 + caD a b k) % 4294967296 = (a + b) / W32 ^ k % W32 ∧ (a / W32 ^ k % W32 + b / W32 ^ k % W32 + caD a b k) / 4294967296 = caD a b (k + 1) := by
  rw [caD_succ, ← addD_limb, W32_num]; exact ⟨rfl, rfl⟩

theorem paD_set {M p c d y : Nat} (hp : p < M) (hy : y < W32 ^ p) (hc : c < W32) (hd : d < W32) :
    (paD M (W32 ^ p * c + y)).set p d = paD M (W32 ^ p * d + y) := by
  apply list_ext
  · simp [paD_length]
  · intro j hj
    simp only [List.length_set, paD_length] at hj
    rw [el_set (by rw [paD_length]; exact hp), el_paD hj, el_paD hj]
    have hW := W32_pos
    by_cases h2 : j = p
    · subst h2
      rw [if_pos rfl, lowD_high hy, Nat.mod_eq_of_lt hd]
    · rw [if_neg h2]
      by_cases h3 : j < p
      · rw [lowD_same h3, lowD_same h3]
      · obtain ⟨q, rfl⟩ : ∃ q, j = p + (q + 1) := ⟨j - p - 1, by omega⟩
        rw [Nat.pow_add, ← Nat.div_div_eq_div_mul, ← Nat.div_div_eq_div_mul, lowD_high hy, lowD_high hy]
        have h4 : W32 ≤ W32 ^ (q + 1) := by rw [Nat.pow_succ]; exact Nat.le_mul_of_pos_left _ (Nat.pow_pos hW)
        rw [Nat.div_eq_of_lt (Nat.lt_of_lt_of_le hc h4), Nat.div_eq_of_lt (Nat.lt_of_lt_of_le hd h4)]
end Go.Proofs.YtooehlneoboenaaGreatDoor
