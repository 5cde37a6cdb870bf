/- Plain facts: the digit of a long division found from above. No program in sight. · Plain facts: a long division's block, its trial digit. No program in sight. · Plain facts: a shift to the left, limb by limb. No program in sight. · Plain facts: the order of two naturals by their limbs; division by one word, limb by limb. No program in sight. · Plain facts: decimal digits one by one, the noughts in front struck. No program in sight. · Plain facts: mantissa and exponent of a size, its number and the midpoints beside it. No program in sight. -/
import Derived.Test.YtibjogbalmbeeaaGreatDoorU10
import Derived.Test.YtibjogbalmbeeaaGreatDoorU01
import Derived.Test.YtibjogbalmbeeaaGreatDoorU12

namespace Go.Proofs.YtibjogbalmbeeaaGreatDoor

/-- What was taken was not too much: the digit is right, the rest is the remainder. -/
theorem digit_hit {R V w B : Nat} (hV : 0 < V) (hR : R < B) (hP : w * V ≤ B) (hq : R / V ≤ w) (h : ¬ R < w * V) : w = R / V ∧ (R + (B - w * V)) % B = R % V := by
  have h1 : w ≤ R / V := (Nat.le_div_iff_mul_le hV).2 (by omega)
  have h2 : w = R / V := Nat.le_antisymm h1 hq
  refine ⟨h2, ?_⟩
  have e : R + (B - w * V) = (R - w * V) + B := by omega
  rw [e, Nat.add_mod_right, Nat.mod_eq_of_lt (by omega), h2, Nat.mul_comm]
  have := Nat.div_add_mod R V
  omega
/-- Too much was taken: it is given back once, and either it comes back or one less is still too much. -/
theorem digit_back {R V w B : Nat} (hV : 0 < V) (hR : R < B) (hP : w * V ≤ B) (hlt : R < w * V) :
    1 ≤ w ∧ (R < (w - 1) * V → (R + (B - w * V) + V) / B = 0 ∧ R + (B - w * V) + V = R + (B - (w - 1) * V) ∧ R + (B - w * V) + V < B ∧ (w - 1) * V ≤ B) ∧
    (¬ R < (w - 1) * V → (R + (B - w * V) + V) / B = 1 ∧ (R + (B - w * V) + V) % B = R % V ∧ w - 1 = R / V) := by
  obtain ⟨k, rfl⟩ : ∃ k, w = k + 1 := ⟨w - 1, by
    have : w ≠ 0 := fun e => by rw [e, Nat.zero_mul] at hlt; omega
    omega⟩
  rw [Nat.add_sub_cancel]
  have e : (k + 1) * V = k * V + V := by rw [Nat.add_mul, Nat.one_mul]
  rw [e] at hP hlt ⊢
  have e2 : R + (B - (k * V + V)) + V = R + (B - k * V) := by omega
  refine ⟨by omega, fun h => ⟨?_, e2, by omega, by omega⟩, fun h => ?_⟩
  · rw [e2]; exact Nat.div_eq_of_lt (by omega)
  · have e3 : R + (B - k * V) = (R - k * V) + B := by omega
    have h1 : R - k * V < V := by omega
    have hB : 0 < B := by omega
    have hk : k = R / V := by
      symm
      refine Nat.div_eq_of_lt_le ?_ ?_
      · omega
      · rw [e]; omega
    refine ⟨?_, ?_, hk⟩
    · rw [e2, e3, Nat.add_div_right _ hB, Nat.div_eq_of_lt (by omega)]
    · rw [e2, e3, Nat.add_mod_right, Nat.mod_eq_of_lt (by omega)]
      have h2 := Nat.div_add_mod R V
      rw [← hk, Nat.mul_comm] at h2
      omega
end Go.Proofs.YtibjogbalmbeeaaGreatDoor

namespace Go.Proofs.YtibjogbalmbeeaaGreatDoor

/-- Where the stretch of one step lies in the block, and what the block is behind the step. -/
theorem long_pads {m n j U V : Nat} (hj : j + (n + 1) ≤ m) (hV : V < W64 ^ n) (hV0 : 0 < V) :
    pad m (U % (W64 ^ (j + 1) * V)) = pad j (U % (W64 ^ (j + 1) * V)) ++ (pad (n + 1) (U % (W64 ^ (j + 1) * V) / W64 ^ j) ++ pad (m - j - (n + 1)) 0) ∧
    pad j (U % (W64 ^ (j + 1) * V)) ++ (pad (n + 1) (U % (W64 ^ (j + 1) * V) / W64 ^ j % V) ++ pad (m - j - (n + 1)) 0) = pad m (U % (W64 ^ j * V)) ∧
    U % (W64 ^ (j + 1) * V) / W64 ^ j < W64 ^ (n + 1) ∧ U % (W64 ^ (j + 1) * V) / W64 ^ j < W64 * V := by
  obtain ⟨h1, _, h3⟩ := long_step U V j hV0
  have hp := Nat.pow_pos W64_pos (n := j)
  generalize U % (W64 ^ (j + 1) * V) = X at *
  have h4 : X / W64 ^ j < W64 ^ (n + 1) := by
    refine Nat.lt_of_lt_of_le h3 ?_
    rw [Nat.pow_succ, Nat.mul_comm]
    exact Nat.mul_le_mul_right _ (Nat.le_of_lt hV)
  have e1 : m = j + ((n + 1) + (m - j - (n + 1))) := by omega
  have key : ∀ Y, Y / W64 ^ j < W64 ^ (n + 1) → pad m Y = pad j Y ++ (pad (n + 1) (Y / W64 ^ j) ++ pad (m - j - (n + 1)) 0) := fun Y hY => by
    conv => lhs; rw [e1]
    rw [pad_split, pad_split, Nat.div_eq_of_lt hY]
  refine ⟨key X h4, ?_, h4, h3⟩
  have h5 : U % (W64 ^ j * V) / W64 ^ j = X / W64 ^ j % V := by
    rw [h1, Nat.add_mul_div_left _ _ hp, Nat.div_eq_of_lt (Nat.mod_lt _ hp), Nat.zero_add]
  have h6 : pad j (U % (W64 ^ j * V)) = pad j X := by
    rw [h1]
    apply list_ext
    · simp [pad_length]
    · intro t ht
      rw [pad_length] at ht
      rw [el_pad ht, el_pad ht, acc_low ht]
      have e2 : W64 ^ j = W64 ^ t * W64 ^ (j - t) := by rw [← Nat.pow_add]; congr 1; omega
      rw [e2, Nat.mod_mul_right_div_self]
      have e3 : W64 ∣ W64 ^ (j - t) := by
        have : j - t = (j - t - 1) + 1 := by omega
        rw [this, Nat.pow_succ]; exact Nat.dvd_mul_left _ _
      rw [Nat.mod_mod_of_dvd _ e3]
  rw [key _ (by rw [h5]; exact Nat.lt_of_lt_of_le (Nat.mod_lt _ hV0) (Nat.le_trans (Nat.le_of_lt hV) (Nat.pow_le_pow_right W64_pos (by omega)))), h5, h6]

/-- The trial digit of a step. -/
theorem trial_digit {n R V : Nat} (hn : 1 ≤ n) (hR : R < W64 ^ (n + 1)) (hRV : R < W64 * V) (hV : V < W64 ^ n) (hV1 : W64 ^ (n - 1) ≤ V) :
    R / V ≤ (if V / W64 ^ (n - 1) % W64 ≤ R / W64 ^ n % W64 then W64 - 1 else (R / W64 ^ n % W64 * W64 + R / W64 ^ (n - 1) % W64) / (V / W64 ^ (n - 1) % W64)) ∧
    (if V / W64 ^ (n - 1) % W64 ≤ R / W64 ^ n % W64 then W64 - 1 else (R / W64 ^ n % W64 * W64 + R / W64 ^ (n - 1) % W64) / (V / W64 ^ (n - 1) % W64)) < W64 := by
  obtain ⟨k, rfl⟩ : ∃ k, n = k + 1 := ⟨n - 1, by omega⟩
  rw [Nat.add_sub_cancel] at *
  have hp := Nat.pow_pos W64_pos (n := k)
  have hd : V / W64 ^ k % W64 = V / W64 ^ k := Nat.mod_eq_of_lt (by rw [Nat.div_lt_iff_lt_mul hp, Nat.mul_comm, ← Nat.pow_succ]; exact hV)
  have hd0 : 0 < V / W64 ^ k := Nat.div_pos hV1 hp
  have hh : R / W64 ^ (k + 1) % W64 = R / W64 ^ k / W64 := by
    rw [Nat.pow_succ, ← Nat.div_div_eq_div_mul]
    refine Nat.mod_eq_of_lt ?_
    rw [Nat.div_div_eq_div_mul, ← Nat.pow_succ, Nat.div_lt_iff_lt_mul (Nat.pow_pos W64_pos), Nat.mul_comm, ← Nat.pow_succ]
    exact hR
  rw [hd, hh]
  refine ⟨trial_le (p := W64 ^ k) (low := R % W64 ^ k) (vlow := V % W64 ^ k) ?_ ?_ hp (Nat.mod_lt _ hp) hd0 W64_pos hRV, ?_⟩
  · have h1 := Nat.div_add_mod (R / W64 ^ k) W64
    have h2 := Nat.div_add_mod R (W64 ^ k)
    rw [Nat.mul_comm _ W64, h1, Nat.mul_comm, h2]
  · rw [Nat.mul_comm]; exact (Nat.div_add_mod V (W64 ^ k)).symm
  · split
    · have := W64_pos; omega
    · rename_i h
      rw [Nat.div_lt_iff_lt_mul hd0]
      have hl := Nat.mod_lt (R / W64 ^ k) W64_pos
      have h1 : (R / W64 ^ k / W64 + 1) * W64 ≤ (V / W64 ^ k) * W64 := Nat.mul_le_mul_right _ (by omega)
      rw [Nat.add_mul, Nat.one_mul, Nat.mul_comm (V / W64 ^ k)] at h1
      omega
end Go.Proofs.YtibjogbalmbeeaaGreatDoor

namespace Go.Proofs.YtibjogbalmbeeaaGreatDoor

theorem mc_lt_d (A d i : Nat) (hd : 0 < d) : mc 0 A d i < d := by
  unfold mc
  have hp := Nat.pow_pos W64_pos (n := i)
  rw [Nat.zero_mod, Nat.zero_add, Nat.div_lt_iff_lt_mul hp, Nat.mul_comm d]
  exact Nat.mul_lt_mul_of_pos_right (Nat.mod_lt _ hp) hd
theorem sh_words {x c s : Nat} (hs : s < 64) (hc : c < 2 ^ s) : (x * 2 ^ s + c) % W64 = c + x * 2 ^ s % W64 ∧ (x * 2 ^ s + c) / W64 = x / 2 ^ (64 - s) := by
  have hW := W_split (r := s) (by omega)
  have hp := Nat.two_pow_pos s
  have hq := Nat.two_pow_pos (64 - s)
  constructor
  · have h1 : x * 2 ^ s % W64 = 2 ^ s * (x % 2 ^ (64 - s)) := by rw [hW, Nat.mul_comm x, Nat.mul_mod_mul_left]
    have h2 : c + x * 2 ^ s % W64 < W64 := by
      rw [h1]
      have := Nat.mul_le_mul_left (2 ^ s) (Nat.mod_lt x hq)
      rw [Nat.mul_succ, ← hW] at this
      omega
    rw [Nat.add_comm, Nat.add_mod, Nat.mod_eq_of_lt (show c < W64 by omega), Nat.mod_eq_of_lt h2]
  · rw [hW, ← Nat.div_div_eq_div_mul]
    congr 1
    rw [Nat.mul_comm x, Nat.mul_add_div hp, Nat.div_eq_of_lt hc, Nat.add_zero]
end Go.Proofs.YtibjogbalmbeeaaGreatDoor

namespace Go.Proofs.YtibjogbalmbeeaaGreatDoor

def cmpI (a b : Nat) : Int := if a < b then -1 else if a = b then 0 else 1
theorem cmpI_lt {a b : Nat} (h : a < b) : cmpI a b = -1 := by unfold cmpI; rw [if_pos h]
theorem cmpI_eq {a b : Nat} (h : a = b) : cmpI a b = 0 := by unfold cmpI; rw [if_neg (by omega), if_pos h]
theorem cmpI_gt {a b : Nat} (h : b < a) : cmpI a b = 1 := by unfold cmpI; rw [if_neg (by omega), if_neg (by omega)]
theorem cmpI_neg {a b : Nat} : cmpI a b < 0 ↔ a < b := by unfold cmpI; split <;> (try split) <;> omega
theorem cmpI_pos {a b : Nat} : 0 < cmpI a b ↔ b < a := by unfold cmpI; split <;> (try split) <;> omega
theorem cmpI_zero {a b : Nat} : cmpI a b = 0 ↔ a = b := by unfold cmpI; split <;> (try split) <;> omega
theorem len_less {a b : Nat} (h : (toL a).length < (toL b).length) : a < b := by
  refine Nat.lt_of_not_le fun hb => ?_
  have h1 := (toL_length_le a _).1 (Nat.le_refl _)
  have h2 := (toL_length_le b (toL a).length).2 (Nat.lt_of_le_of_lt hb h1)
  omega
theorem div_split (a i : Nat) : a / W64 ^ i = W64 * (a / W64 ^ (i + 1)) + a / W64 ^ i % W64 := by
  rw [Nat.pow_succ, ← Nat.div_div_eq_div_mul]
  exact (Nat.div_add_mod (a / W64 ^ i) W64).symm
theorem cmp_top {a b i : Nat} (h : a / W64 ^ (i + 1) = b / W64 ^ (i + 1)) (hl : a / W64 ^ i % W64 < b / W64 ^ i % W64) : a < b := by
  have h1 := div_split a i
  have h2 := div_split b i
  rw [h] at h1
  have h3 : a / W64 ^ i < b / W64 ^ i := by omega
  refine Nat.lt_of_not_le fun hb => ?_
  have := Nat.div_le_div_right (c := W64 ^ i) hb
  omega
theorem cmp_more {a b i : Nat} (h : a / W64 ^ (i + 1) = b / W64 ^ (i + 1)) (he : a / W64 ^ i % W64 = b / W64 ^ i % W64) : a / W64 ^ i = b / W64 ^ i := by
  rw [div_split a i, div_split b i, h, he]
theorem top_zero (a : Nat) : a / W64 ^ (toL a).length = 0 := Nat.div_eq_of_lt ((toL_length_le a _).1 (Nat.le_refl _))
/-- One digit of the division by a word. -/
theorem divw_step (a d j : Nat) (hd : 0 < d) (_hdW : d < W64) :
    (a / W64 ^ (j + 1) % d * W64 + a / W64 ^ j % W64) % d = a / W64 ^ j % d ∧
    (a / W64 ^ (j + 1) % d * W64 + a / W64 ^ j % W64) / d < W64 ∧
    a / W64 ^ j / d = W64 * (a / W64 ^ (j + 1) / d) + (a / W64 ^ (j + 1) % d * W64 + a / W64 ^ j % W64) / d := by
  have h1 := div_split a j
  generalize a / W64 ^ j % W64 = e at *
  have he : e = a / W64 ^ j - W64 * (a / W64 ^ (j + 1)) := by omega
  have heW : e < W64 := by
    have h3 : a / W64 ^ (j + 1) = a / W64 ^ j / W64 := by rw [Nat.pow_succ, Nat.div_div_eq_div_mul]
    rw [h3] at he
    have h4 := Nat.div_add_mod (a / W64 ^ j) W64
    have h5 := Nat.mod_lt (a / W64 ^ j) W64_pos
    omega
  rw [h1]
  generalize a / W64 ^ (j + 1) = x at *
  have h2 := Nat.div_add_mod x d
  have hl := Nat.mod_lt x hd
  generalize x / d = q at *
  generalize x % d = r at *
  have e1 : W64 * x + e = d * (W64 * q) + (r * W64 + e) := by
    rw [← h2, Nat.mul_add, Nat.mul_comm W64 r]
    have : W64 * (d * q) = d * (W64 * q) := by ac_rfl
    omega
  refine ⟨?_, ?_, ?_⟩
  · rw [e1, Nat.mul_add_mod]
  · rw [Nat.div_lt_iff_lt_mul hd]
    have h3 : (r + 1) * W64 ≤ d * W64 := Nat.mul_le_mul_right _ hl
    rw [Nat.add_mul, Nat.one_mul, Nat.mul_comm d] at h3
    omega
  · rw [e1, Nat.mul_add_div hd]
end Go.Proofs.YtibjogbalmbeeaaGreatDoor

namespace Go.Proofs.YtibjogbalmbeeaaGreatDoor

theorem digits_eq_of {l m : List UInt8} (hl : l.all dgQ = true) (hm : m.all dgQ = true) (hn : l.length = m.length) (hv : dcV l = dcV m) : l = m := by
  induction l generalizing m with
  | nil => cases m with
    | nil => rfl
    | cons c t => simp at hn
  | cons c t ih =>
    cases m with
    | nil => simp at hn
    | cons d u =>
      simp only [List.length_cons, Nat.add_right_cancel_iff] at hn
      simp only [List.all_cons, Bool.and_eq_true] at hl hm
      rw [dcV_cons, dcV_cons, hn] at hv
      have h1 := dcV_lt hl.2
      have h2 := dcV_lt hm.2
      rw [hn] at h1
      have hp : 0 < 10 ^ u.length := Nat.pow_pos (by omega)
      have e : dgV c = dgV d := by
        have h3 : (dgV c * 10 ^ u.length + dcV t) / 10 ^ u.length = dgV c := by rw [Nat.mul_comm, Nat.mul_add_div hp, Nat.div_eq_of_lt h1, Nat.add_zero]
        have h4 : (dgV d * 10 ^ u.length + dcV u) / 10 ^ u.length = dgV d := by rw [Nat.mul_comm, Nat.mul_add_div hp, Nat.div_eq_of_lt h2, Nat.add_zero]
        rw [← h3, ← h4, hv]
      have e2 : dcV t = dcV u := by rw [e] at hv; omega
      obtain ⟨a1, a2, _⟩ := dgQ_val hl.1
      obtain ⟨b1, b2, _⟩ := dgQ_val hm.1
      have e3 : c = d := by
        unfold dgV at e
        exact UInt8.toNat_inj.1 (by omega)
      rw [e3, ih hl.2 hm.2 hn e2]
/-- The numeral of a number is the one list of digits of that value that begins with none but a real digit. -/
theorem digits_unique {l : List UInt8} {u : Nat} (hl : l.all dgQ = true) (h0 : ∀ c t, l = c :: t → c ≠ 48) (hv : dcV l = u) (hu : u ≠ 0) : l = Lib.decDigits u := by
  obtain ⟨d1, d2, d3, d4⟩ := dcV_digits u
  obtain ⟨c, t, e1, hc⟩ := d3 hu
  cases l with
  | nil => rw [dcV_nil] at hv; omega
  | cons x y =>
    have hx := h0 x y rfl
    refine digits_eq_of hl d2 ?_ (by rw [hv, d1])
    have hla := hl
    have hd2 := d2
    rw [e1] at d1 d2
    simp only [List.all_cons, Bool.and_eq_true] at hla d2
    have g1 := dcV_ge hla.1 hx (t := y)
    have g2 := dcV_ge d2.1 hc (t := t)
    have l1 := dcV_lt hl
    have l2 := dcV_lt hd2
    rw [e1] at l2 ⊢
    rw [hv] at g1 l1
    rw [d1] at g2 l2
    simp only [List.length_cons] at *
    have h1 : 10 ^ y.length < 10 ^ (t.length + 1) := Nat.lt_of_le_of_lt g1 l2
    have h2 : 10 ^ t.length < 10 ^ (y.length + 1) := Nat.lt_of_le_of_lt g2 l1
    rw [Nat.pow_lt_pow_iff_right (by omega)] at h1 h2
    omega
/-- The digits of a, the least first. -/
def rdg (a n : Nat) : List UInt8 := (List.range n).map fun j => UInt8.ofNat (48 + a / 10 ^ j % 10)
theorem rdg_succ (a n : Nat) : rdg a (n + 1) = rdg a n ++ [UInt8.ofNat (48 + a / 10 ^ n % 10)] := by unfold rdg; rw [List.range_succ]; simp
theorem rdg_length (a n : Nat) : (rdg a n).length = n := by simp [rdg]
theorem rdg_get (a n j : Nat) (h : j < n) : (rdg a n)[j]? = some (UInt8.ofNat (48 + a / 10 ^ j % 10)) := by simp [rdg, h]
/-- The first i of n digits of a. -/
def hdg (a n i : Nat) : List UInt8 := (List.range i).map fun t => UInt8.ofNat (48 + a / 10 ^ (n - 1 - t) % 10)
theorem hdg_succ (a n i : Nat) : hdg a n (i + 1) = hdg a n i ++ [UInt8.ofNat (48 + a / 10 ^ (n - 1 - i) % 10)] := by unfold hdg; rw [List.range_succ]; simp
theorem hdg_all (a n i : Nat) : (hdg a n i).all dgQ = true := by
  unfold hdg
  rw [List.all_eq_true]
  intro x hx
  rw [List.mem_map] at hx
  obtain ⟨t, _, rfl⟩ := hx
  exact (digit_byte (Nat.mod_lt _ (by omega))).1
theorem hdg_val (a n i : Nat) (h : i ≤ n) : dcV (hdg a n i) = a / 10 ^ (n - i) % 10 ^ i := by
  induction i with
  | zero => rw [Nat.pow_zero, Nat.mod_one]; rfl
  | succ i ih =>
    rw [hdg_succ, dcV_snoc, ih (by omega), (digit_byte (Nat.mod_lt _ (by omega))).2.1]
    have e1 : n - i = (n - (i + 1)) + 1 := by omega
    have e2 : n - 1 - i = n - (i + 1) := by omega
    rw [e1, e2, Nat.pow_succ, ← Nat.div_div_eq_div_mul]
    generalize a / 10 ^ (n - (i + 1)) = x
    rw [Nat.pow_succ 10 i, Nat.mul_comm (10 ^ i), Nat.mod_mul]
    omega
/-- The noughts in front struck. -/
def strip0 (l : List UInt8) : List UInt8 := l.dropWhile (· == 48)
theorem strip0_snoc (l : List UInt8) (c : UInt8) : strip0 (l ++ [c]) = if strip0 l = [] then (if c = 48 then [] else [c]) else strip0 l ++ [c] := by
  unfold strip0
  induction l with
  | nil =>
    by_cases h : c = 48
    · subst h; rfl
    · have : (c == 48) = false := by simpa using h
      simp [this, h]
  | cons x t ih =>
    by_cases hx : (x == 48) = true
    · simp only [List.cons_append, List.dropWhile_cons, hx, if_true]; exact ih
    · simp only [List.cons_append, List.dropWhile_cons, hx]; simp
theorem strip0_all {l : List UInt8} (h : l.all dgQ = true) : (strip0 l).all dgQ = true := by
  rw [List.all_eq_true] at h ⊢
  exact fun x hx => h x ((List.dropWhile_sublist _).subset hx)
theorem strip0_head (l : List UInt8) : ∀ c t, strip0 l = c :: t → c ≠ 48 := by
  intro c t e h
  subst h
  unfold strip0 at e
  have := List.head?_dropWhile_not (fun x : UInt8 => x == 48) l
  rw [e] at this
  simp at this
theorem strip0_len (l : List UInt8) : (strip0 l).length ≤ l.length := (List.dropWhile_sublist _).length_le
/-- All n digits, the noughts in front struck, are the numeral; of nought none is left. -/
theorem strip0_digits {a n : Nat} (h : a < 10 ^ n) : strip0 (hdg a n n) = if a = 0 then [] else Lib.decDigits a := by
  have hv : dcV (strip0 (hdg a n n)) = a := by
    rw [strip0, dcV_drop, hdg_val a n n (Nat.le_refl _), Nat.sub_self, Nat.pow_zero, Nat.div_one, Nat.mod_eq_of_lt h]
  by_cases h0 : a = 0
  · rw [if_pos h0]
    cases e : strip0 (hdg a n n) with
    | nil => rfl
    | cons c t =>
      have hc := strip0_head _ c t e
      have ha := strip0_all (hdg_all a n n)
      rw [e] at ha hv
      simp only [List.all_cons, Bool.and_eq_true] at ha
      have := dcV_ge ha.1 hc (t := t)
      have hp : 0 < 10 ^ t.length := Nat.pow_pos (by omega)
      omega
  · rw [if_neg h0]
    exact digits_unique (strip0_all (hdg_all a n n)) (strip0_head _) hv h0
theorem chunk_digit {x t : Nat} (h : t < 19) : x % 10 ^ 19 / 10 ^ t % 10 = x / 10 ^ t % 10 := by
  have e : 10 ^ 19 = 10 ^ t * 10 ^ (19 - t) := by rw [← Nat.pow_add]; congr 1; omega
  rw [e, Nat.mod_mul_right_div_self]
  have e3 : 10 ∣ 10 ^ (19 - t) := by
    have : 19 - t = (19 - t - 1) + 1 := by omega
    rw [this, Nat.pow_succ]; exact Nat.dvd_mul_left _ _
  exact Nat.mod_mod_of_dvd _ e3
theorem decDigits_len {a m : Nat} (h : a < 10 ^ m) (hm : 1 ≤ m) : (Lib.decDigits a).length ≤ m := by
  obtain ⟨d1, d2, d3, d4⟩ := dcV_digits a
  by_cases h0 : a = 0
  · subst h0; rw [Lib.decDigits]; simp; exact hm
  · obtain ⟨c, t, e, hc⟩ := d3 h0
    rw [e] at d1 d2 ⊢
    simp only [List.all_cons, Bool.and_eq_true] at d2
    have g := dcV_ge d2.1 hc (t := t)
    rw [d1] at g
    have h1 : 10 ^ t.length < 10 ^ m := Nat.lt_of_le_of_lt g h
    rw [Nat.pow_lt_pow_iff_right (by omega)] at h1
    rw [List.length_cons]; omega
end Go.Proofs.YtibjogbalmbeeaaGreatDoor

namespace Go.Proofs.YtibjogbalmbeeaaGreatDoor

/-- Mantissa and exponent (from the least) of a size. -/
def mnt (f : Fm) (z : Nat) : Nat := if z / 2 ^ (f.P - 1) = 0 then z % 2 ^ (f.P - 1) else 2 ^ (f.P - 1) + z % 2 ^ (f.P - 1)
def mex (f : Fm) (z : Nat) : Nat := if z / 2 ^ (f.P - 1) = 0 then 0 else z / 2 ^ (f.P - 1) - 1
theorem vP_mnt (f : Fm) (z : Nat) : vP f z = mnt f z * 2 ^ mex f z := by
  have hp := Nat.two_pow_pos (f.P - 1)
  unfold vP mnt mex
  by_cases h : z < 2 ^ (f.P - 1)
  · rw [if_pos h, if_pos (Nat.div_eq_of_lt h), if_pos (Nat.div_eq_of_lt h), Nat.pow_zero, Nat.mul_one, Nat.mod_eq_of_lt h]
  · have h1 : ¬ z / 2 ^ (f.P - 1) = 0 := by
      intro e
      exact h ((Nat.div_eq_zero_iff.1 e).resolve_left (by omega))
    rw [if_neg h, if_neg h1, if_neg h1]
theorem md_mnt (f : Fm) (z : Nat) : md f z = (2 * mnt f z + 1) * 2 ^ mex f z := by
  have hp := Nat.two_pow_pos (f.P - 1)
  have h1 : vP f (z + 1) = vP f z + 2 ^ mex f z := by
    have hd := Nat.div_add_mod z (2 ^ (f.P - 1))
    have hm := Nat.mod_lt z hp
    have hx : mex f z = if z / 2 ^ (f.P - 1) = 0 then 0 else z / 2 ^ (f.P - 1) - 1 := rfl
    obtain ⟨r, hr⟩ : ∃ r, z % 2 ^ (f.P - 1) = r := ⟨_, rfl⟩
    obtain ⟨u, hu⟩ : ∃ u, z / 2 ^ (f.P - 1) = u := ⟨_, rfl⟩
    rw [hr] at hd hm
    rw [hu] at hd hx
    by_cases h : u = 0
    · rw [h, Nat.mul_zero, Nat.zero_add] at hd
      have e1 := vP_enc f 0 r (.inl rfl) (by omega)
      have e2 := vP_enc f 0 (r + 1) (.inl rfl) (by omega)
      simp only [Nat.zero_mul, Nat.zero_add, Nat.pow_zero, Nat.mul_one, hd] at e1 e2
      rw [hx, if_pos h, e1, e2, Nat.pow_zero]
    · obtain ⟨t, rfl⟩ : ∃ t, u = t + 1 := ⟨u - 1, by omega⟩
      have ez : z = t * 2 ^ (f.P - 1) + (2 ^ (f.P - 1) + r) := by
        rw [Nat.mul_add, Nat.mul_one, Nat.mul_comm] at hd
        omega
      have e1 := vP_enc f t (2 ^ (f.P - 1) + r) (.inr (by omega)) (by omega)
      have e2 := vP_enc f t (2 ^ (f.P - 1) + r + 1) (.inr (by omega)) (by omega)
      rw [← ez] at e1
      rw [← Nat.add_assoc, ← ez] at e2
      rw [if_neg h, Nat.add_sub_cancel] at hx
      rw [e1, e2, hx, Nat.add_mul, Nat.one_mul]
  unfold md
  rw [h1, vP_mnt, Nat.add_mul, Nat.one_mul, Nat.mul_assoc]
  omega
/-- An odd number times a power of two. -/
theorem odd_split {m : Nat} (h : m ≠ 0) : (m / 2 ^ tz m) % 2 = 1 ∧ m / 2 ^ tz m * 2 ^ tz m = m := ⟨(odd_part h).1, odd_mul h⟩
theorem mnt_pos {f : Fm} {z : Nat} (h : z ≠ 0) : mnt f z ≠ 0 := by
  have hp := Nat.two_pow_pos (f.P - 1)
  unfold mnt
  split
  · rename_i h1
    have hd := Nat.div_add_mod z (2 ^ (f.P - 1))
    rw [h1, Nat.mul_zero, Nat.zero_add] at hd
    omega
  · omega
theorem mnt_lt {f : Fm} (hP : 2 ≤ f.P) (z : Nat) : mnt f z < 2 ^ f.P := by
  have hp := Nat.two_pow_pos (f.P - 1)
  have hm := Nat.mod_lt z hp
  have e : 2 ^ f.P = 2 * 2 ^ (f.P - 1) := by rw [← Nat.pow_succ']; congr 1; omega
  unfold mnt
  split <;> omega
end Go.Proofs.YtibjogbalmbeeaaGreatDoor
