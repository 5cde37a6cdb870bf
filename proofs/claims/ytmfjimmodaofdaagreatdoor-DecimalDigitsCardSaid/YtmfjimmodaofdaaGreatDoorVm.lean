/- Plain facts: products, sums, differences and long division by digits of 32 bits (turned from the limbs' facts by gen_vg.py). No program in sight. · Walks of gnomonref01: Add, Shl, Shr. · Walks of gnomonref01: Mul, Pow2, Small, Bit. -/
import Derived.Test.YtmfjimmodaofdaaGreatDoorVf
import Derived.BigQuiet
import Derived.Deep.QuietTactic
namespace Go.Proofs.YtmfjimmodaofdaaGreatDoor

def miD (m k x y : Nat) : List Nat := paD k x ++ (paD m y).drop k
theorem miD_length {m k x y : Nat} (h : k ≤ m) : (miD m k x y).length = m := by simp [miD, paD_length]; omega
theorem el_miD {m k x y j : Nat} (hj : j < m) : el (miD m k x y) j = if j < k then x / W32 ^ j % W32 else y / W32 ^ j % W32 := by
  unfold miD
  by_cases h : j < k
  · rw [if_pos h, el_app_left (by rw [paD_length]; exact h), el_paD h]
  · rw [if_neg h, el_app_right (by rw [paD_length]; omega), paD_length, el_drop, show k + (j - k) = j by omega, el_paD hj]
theorem miD_zero (m x y : Nat) : miD m 0 x y = paD m y := by simp [miD, paD]
theorem miD_ext {m k x y : Nat} {l : List Nat} (hk : k ≤ m) (hl : l.length = m) (h : ∀ j, j < m → el l j = if j < k then x / W32 ^ j % W32 else y / W32 ^ j % W32) : l = miD m k x y := by
  apply list_ext (by rw [hl, miD_length hk])
  intro j hj
  rw [hl] at hj
  rw [h j hj, el_miD hj]
theorem miD_full (m x y : Nat) : miD m m x y = paD m x := by
  symm
  refine miD_ext (Nat.le_refl _) (paD_length _ _) (fun j hj => ?_)
  rw [if_pos hj, el_paD hj]
theorem miD_set {m k x y : Nat} (h : k < m) : (miD m k x y).set k (x / W32 ^ k % W32) = miD m (k + 1) x y := by
  refine miD_ext (by omega) (by rw [List.length_set, miD_length (by omega)]) (fun j hj => ?_)
  rw [el_set (by rw [miD_length (by omega)]; exact h), el_miD hj]
  by_cases h1 : j = k
  · subst h1; rw [if_pos rfl, if_pos (by omega)]
  · rw [if_neg h1]
    by_cases h2 : j < k
    · rw [if_pos h2, if_pos (by omega)]
    · rw [if_neg h2, if_neg (by omega)]
theorem divD_pow_same {x y k j : Nat} (h : x / W32 ^ k = y / W32 ^ k) (hj : k ≤ j) : x / W32 ^ j = y / W32 ^ j := by
  obtain ⟨q, rfl⟩ : ∃ q, j = k + q := ⟨j - k, by omega⟩
  rw [Nat.pow_add, ← Nat.div_div_eq_div_mul, ← Nat.div_div_eq_div_mul, h]
theorem miD_eq {m k x y : Nat} (hk : k ≤ m) (h : x / W32 ^ k = y / W32 ^ k) : miD m k x y = paD m x := by
  symm
  refine miD_ext hk (paD_length _ _) (fun j hj => ?_)
  rw [el_paD hj]
  by_cases h1 : j < k
  · rw [if_pos h1]
  · rw [if_neg h1, divD_pow_same h (by omega)]
def mcD (Y A d i : Nat) : Nat := (Y % W32 ^ i + A % W32 ^ i * d) / W32 ^ i
theorem mcD_zero (Y A d : Nat) : mcD Y A d 0 = 0 := by simp [mcD, Nat.mod_one]
theorem mcD_step (Y A d i : Nat) :
    (Y + A * d) / W32 ^ i % W32 = (Y / W32 ^ i % W32 + A / W32 ^ i % W32 * d + mcD Y A d i) % W32 ∧
    mcD Y A d (i + 1) = (Y / W32 ^ i % W32 + A / W32 ^ i % W32 * d + mcD Y A d i) / W32 := by
  have hp : 0 < W32 ^ i := Nat.pow_pos W32_pos
  have e1 := modD_pow_succ Y i
  have e2 := modD_pow_succ A i
  have hV : Y % W32 ^ (i + 1) + A % W32 ^ (i + 1) * d = W32 ^ i * (Y / W32 ^ i % W32 + A / W32 ^ i % W32 * d) + (Y % W32 ^ i + A % W32 ^ i * d) := by
    rw [e1, e2, Nat.add_mul, Nat.mul_add, Nat.mul_assoc]; omega
  have hq : (Y % W32 ^ (i + 1) + A % W32 ^ (i + 1) * d) / W32 ^ i = Y / W32 ^ i % W32 + A / W32 ^ i % W32 * d + mcD Y A d i := by
    rw [hV, Nat.mul_add_div hp]; rfl
  refine ⟨?_, ?_⟩
  · have h1 := Nat.div_add_mod Y (W32 ^ (i + 1))
    have h2 := Nat.div_add_mod A (W32 ^ (i + 1))
    have h3 : Y + A * d = W32 ^ i * (W32 * (Y / W32 ^ (i + 1) + A / W32 ^ (i + 1) * d)) + (Y % W32 ^ (i + 1) + A % W32 ^ (i + 1) * d) := by
      conv => lhs; rw [← h1, ← h2]
      rw [Nat.add_mul, Nat.pow_succ, Nat.mul_add, Nat.mul_add]
      generalize Y / (W32 ^ i * W32) = y
      generalize A / (W32 ^ i * W32) = a
      generalize Y % (W32 ^ i * W32) = y'
      generalize A % (W32 ^ i * W32) = a'
      have e3 : W32 ^ i * W32 * a * d = W32 ^ i * (W32 * (a * d)) := by ac_rfl
      have e4 : W32 ^ i * W32 * y = W32 ^ i * (W32 * y) := by ac_rfl
      rw [e3, e4]; omega
    rw [h3, Nat.mul_add_div hp, hq, Nat.add_comm, Nat.add_mul_mod_self_left]
  · rw [← hq, Nat.div_div_eq_div_mul, ← Nat.pow_succ]; rfl
theorem mcD_lt (Y A d i : Nat) (hd : d < W32) : mcD Y A d i < W32 := by
  have hp : 0 < W32 ^ i := Nat.pow_pos W32_pos
  unfold mcD
  rw [Nat.div_lt_iff_lt_mul hp]
  have h1 := Nat.mod_lt Y hp
  have h2 := Nat.mod_lt A hp
  have h3 : A % W32 ^ i * d ≤ (W32 ^ i - 1) * (W32 - 1) := Nat.mul_le_mul (by omega) (by omega)
  have h4 : (W32 ^ i - 1) * (W32 - 1) + (W32 ^ i - 1) = (W32 ^ i - 1) * W32 := by
    rw [← Nat.mul_succ]; congr 1; have := W32_pos; omega
  have h5 : (W32 ^ i - 1) * W32 + W32 = W32 ^ i * W32 := by
    rw [← Nat.succ_mul]; congr 1; omega
  have hW := W32_pos
  rw [Nat.mul_comm W32]
  omega
theorem accD_low {X j T t : Nat} (h : t < j) : (X + W32 ^ j * T) / W32 ^ t % W32 = X / W32 ^ t % W32 := by
  obtain ⟨q, rfl⟩ : ∃ q, j = t + (q + 1) := ⟨j - t - 1, by omega⟩
  rw [Nat.add_comm, Nat.pow_add, Nat.mul_assoc, Nat.mul_add_div (Nat.pow_pos W32_pos), Nat.pow_succ, Nat.mul_comm (W32 ^ q), Nat.mul_assoc, Nat.add_comm, Nat.add_mul_mod_self_left]
theorem accD_high (X j T i : Nat) : (X + W32 ^ j * T) / W32 ^ (j + i) = (X / W32 ^ j + T) / W32 ^ i := by
  rw [Nat.pow_add, ← Nat.div_div_eq_div_mul, Nat.add_mul_div_left _ _ (Nat.pow_pos W32_pos)]
theorem miD_start {m j X T : Nat} (hj : j ≤ m) : miD m j (X + W32 ^ j * T) X = paD m X := by
  symm
  refine miD_ext hj (paD_length _ _) (fun t ht => ?_)
  rw [el_paD ht]
  by_cases h : t < j
  · rw [if_pos h, accD_low h]
  · rw [if_neg h]
theorem rowD_end {m j n X A d : Nat} (hm : j + n < m) (hX : X < W32 ^ (j + n)) (hA : A < W32 ^ n) (hd : d < W32) :
    (miD m (j + n) (X + W32 ^ j * (A * d)) X).set (j + n) (mcD (X / W32 ^ j) A d n) = paD m (X + W32 ^ j * (A * d)) ∧ X + W32 ^ j * (A * d) < W32 ^ (j + n + 1) := by
  have hp : 0 < W32 ^ n := Nat.pow_pos W32_pos
  have hY : X / W32 ^ j < W32 ^ n := by rw [Nat.div_lt_iff_lt_mul (Nat.pow_pos W32_pos), Nat.mul_comm, ← Nat.pow_add]; exact hX
  have hc : mcD (X / W32 ^ j) A d n = (X / W32 ^ j + A * d) / W32 ^ n := by unfold mcD; rw [Nat.mod_eq_of_lt hY, Nat.mod_eq_of_lt hA]
  have hcl := mcD_lt (X / W32 ^ j) A d n hd
  have h1 : (X + W32 ^ j * (A * d)) / W32 ^ (j + n) = mcD (X / W32 ^ j) A d n := by rw [accD_high, hc]
  have h2 : (X + W32 ^ j * (A * d)) / W32 ^ (j + n) % W32 = mcD (X / W32 ^ j) A d n := by rw [h1, Nat.mod_eq_of_lt hcl]
  have h3 : X + W32 ^ j * (A * d) < W32 ^ (j + n + 1) := by
    rw [Nat.pow_succ, Nat.mul_comm (W32 ^ (j + n))]
    exact (Nat.div_lt_iff_lt_mul (Nat.pow_pos W32_pos)).1 (by rw [h1]; exact hcl)
  refine ⟨?_, h3⟩
  rw [← h2, miD_set hm]
  refine miD_eq (by omega) ?_
  rw [Nat.div_eq_of_lt h3, Nat.div_eq_of_lt (Nat.lt_of_lt_of_le hX (Nat.pow_le_pow_right W32_pos (by omega)))]
theorem subD_words (x' p c : Nat) (hx : x' < W32) (hp : p < W32) (hc : c ≤ 1) :
    ((x' + p + c) % W32 + W32 - p - c) % W32 = x' ∧ (if (x' + p + c) % W32 < p + c then 1 else 0) = (x' + p + c) / W32 := by
  have hW : 2 ≤ W32 := by rw [W32_num]; omega
  have h1 := Nat.div_add_mod (x' + p + c) W32
  have h2 := Nat.mod_lt (x' + p + c) W32_pos
  have h3 : (x' + p + c) / W32 = 0 ∨ (x' + p + c) / W32 = 1 := by
    have h4 : (x' + p + c) / W32 < 2 := by rw [Nat.div_lt_iff_lt_mul W32_pos]; omega
    generalize (x' + p + c) / W32 = q at h4
    omega
  rcases h3 with h | h
  · rw [h] at h1 ⊢
    simp only [Nat.mul_zero, Nat.zero_add] at h1
    rw [h1]
    refine ⟨?_, by rw [if_neg (by omega)]⟩
    rw [show x' + p + c + W32 - p - c = x' + W32 by omega, Nat.add_mod_right, Nat.mod_eq_of_lt hx]
  · rw [h] at h1 ⊢
    simp only [Nat.mul_one] at h1
    generalize (x' + p + c) % W32 = r at *
    refine ⟨?_, by rw [if_pos (by omega)]⟩
    rw [show r + W32 - p - c = x' by omega, Nat.mod_eq_of_lt hx]
theorem subD_step (X' P i : Nat) :
    ((X' + P) / W32 ^ i % W32 + W32 - P / W32 ^ i % W32 - caD X' P i) % W32 = X' / W32 ^ i % W32 ∧
    (if (X' + P) / W32 ^ i % W32 < P / W32 ^ i % W32 + caD X' P i then 1 else 0) = caD X' P (i + 1) := by
  have h := addD_word X' P i
  rw [← W32_num] at h
  have h1 := subD_words (X' / W32 ^ i % W32) (P / W32 ^ i % W32) (caD X' P i) (Nat.mod_lt _ W32_pos) (Nat.mod_lt _ W32_pos) (caD_le X' P i)
  rw [h.1, h.2] at h1
  exact h1
theorem mulD_step (A d i : Nat) : (A * d) / W32 ^ i % W32 = (A / W32 ^ i % W32 * d + mcD 0 A d i) % W32 ∧ mcD 0 A d (i + 1) = (A / W32 ^ i % W32 * d + mcD 0 A d i) / W32 := by
  have h := mcD_step 0 A d i
  simp only [Nat.zero_add, Nat.zero_div, Nat.zero_mod] at h
  exact h
theorem paD_zero_rep (m : Nat) : paD m 0 = List.replicate m 0 := by
  apply list_ext
  · rw [paD_length, List.length_replicate]
  · intro j hj
    rw [paD_length] at hj
    rw [el_paD hj, Nat.zero_div, Nat.zero_mod]
    simp [el, List.getD_eq_getElem?_getD, hj]
theorem paD_split (j k x : Nat) : paD (j + k) x = paD j x ++ paD k (x / W32 ^ j) := by
  apply list_ext
  · simp [paD_length]
  · intro t ht
    rw [paD_length] at ht
    rw [el_paD ht]
    by_cases h : t < j
    · rw [el_app_left (by rw [paD_length]; exact h), el_paD h]
    · rw [el_app_right (by rw [paD_length]; omega), paD_length, el_paD (by omega), Nat.div_div_eq_div_mul, ← Nat.pow_add, show j + (t - j) = t by omega]
theorem longD_step (U V j : Nat) (hV : 0 < V) :
    U % (W32 ^ j * V) = U % (W32 ^ (j + 1) * V) % W32 ^ j + W32 ^ j * (U % (W32 ^ (j + 1) * V) / W32 ^ j % V) ∧
    U / (W32 ^ j * V) = W32 * (U / (W32 ^ (j + 1) * V)) + U % (W32 ^ (j + 1) * V) / W32 ^ j / V ∧
    U % (W32 ^ (j + 1) * V) / W32 ^ j < W32 * V := by
  have hp := Nat.pow_pos W32_pos (n := j)
  have e : W32 ^ (j + 1) * V = W32 ^ j * V * W32 := by rw [Nat.pow_succ]; ac_rfl
  have h1 : U % (W32 ^ (j + 1) * V) % (W32 ^ j * V) = U % (W32 ^ j * V) := by rw [e]; exact Nat.mod_mul_right_mod U (W32 ^ j * V) W32
  refine ⟨?_, ?_, ?_⟩
  · rw [← h1, Nat.mod_mul]
  · rw [Nat.div_div_eq_div_mul, e]
    have h2 := Nat.div_add_mod U (W32 ^ j * V * W32)
    have hq : 0 < W32 ^ j * V := Nat.mul_pos hp hV
    conv => lhs; rw [← h2, Nat.mul_assoc, Nat.mul_add_div hq]
  · rw [Nat.div_lt_iff_lt_mul hp]
    have h3 := Nat.mod_lt U (show 0 < W32 ^ (j + 1) * V from Nat.mul_pos (Nat.pow_pos W32_pos) hV)
    have e2 : W32 * V * W32 ^ j = W32 ^ (j + 1) * V := by rw [Nat.pow_succ]; ac_rfl
    rw [e2]; exact h3
theorem quoD_set {m j Q d : Nat} (hj : j < m) (hd : d < W32) : (paD m (W32 ^ (j + 1) * Q)).set j d = paD m (W32 ^ j * (W32 * Q + d)) := by
  have hp := Nat.pow_pos W32_pos (n := j)
  apply list_ext
  · simp [paD_length]
  · intro t ht
    simp only [List.length_set, paD_length] at ht
    rw [el_set (by rw [paD_length]; exact hj), el_paD ht, el_paD ht]
    have e : W32 ^ (j + 1) * Q = W32 ^ j * (W32 * Q) := by rw [Nat.pow_succ, Nat.mul_assoc]
    by_cases h1 : t = j
    · subst h1
      rw [if_pos rfl, Nat.mul_div_cancel_left _ hp, Nat.mul_add_mod, Nat.mod_eq_of_lt hd]
    · rw [if_neg h1, e]
      by_cases h2 : t < j
      · obtain ⟨q, rfl⟩ : ∃ q, j = t + (q + 1) := ⟨j - t - 1, by omega⟩
        have hz : ∀ z, W32 ^ (t + (q + 1)) * z / W32 ^ t % W32 = 0 := fun z => by
          rw [Nat.pow_add, Nat.mul_assoc, Nat.mul_div_cancel_left _ (Nat.pow_pos W32_pos), Nat.pow_succ, Nat.mul_comm (W32 ^ q), Nat.mul_assoc, Nat.mul_mod_right]
        rw [hz, hz]
      · obtain ⟨q, rfl⟩ : ∃ q, t = j + (q + 1) := ⟨t - j - 1, by omega⟩
        rw [Nat.pow_add, ← Nat.div_div_eq_div_mul, ← Nat.div_div_eq_div_mul, Nat.mul_div_cancel_left _ hp, Nat.mul_div_cancel_left _ hp, Nat.pow_succ, Nat.mul_comm (W32 ^ q), ← Nat.div_div_eq_div_mul, ← Nat.div_div_eq_div_mul, Nat.mul_div_cancel_left _ W32_pos, Nat.mul_add_div W32_pos, Nat.div_eq_of_lt hd, Nat.add_zero]
end Go.Proofs.YtmfjimmodaofdaaGreatDoor

namespace Go.Proofs.YtmfjimmodaofdaaGreatDoor
open Go.RowKit
theorem addD_done {a b k M : Nat} (ha : a < W32 ^ M) (hb : b < W32 ^ M) (hk : M ≤ k) (hc : caD a b k = 0) : a + b < W32 ^ k := by
  have h1 : W32 ^ M ≤ W32 ^ k := Nat.pow_le_pow_right W32_pos hk
  have h2 := addD_low a b k
  have h3 := Nat.pow_pos W32_pos (n := k)
  rw [hc, Nat.div_eq_of_lt (Nat.lt_of_lt_of_le ha h1), Nat.div_eq_of_lt (Nat.lt_of_lt_of_le hb h1)] at h2
  rcases (Nat.div_eq_zero_iff).1 h2 with h | h
  · rw [h] at h3; exact absurd h3 (Nat.lt_irrefl 0)
  · exact h
theorem caD_none {a b M : Nat} (ha : a < W32 ^ M) (hb : b < W32 ^ M) : caD a b (M + 1) = 0 := by
  unfold caD
  have h1 : W32 ^ M ≤ W32 ^ (M + 1) := Nat.pow_le_pow_right W32_pos (by omega)
  rw [Nat.mod_eq_of_lt (Nat.lt_of_lt_of_le ha h1), Nat.mod_eq_of_lt (Nat.lt_of_lt_of_le hb h1)]
  apply Nat.div_eq_of_lt
  rw [Nat.pow_succ]
  have h2 : W32 ^ M * 2 ≤ W32 ^ M * W32 := Nat.mul_le_mul_left _ (by rw [W32_num]; omega)
  generalize W32 ^ M = P at *
  omega

set_option maxRecDepth 100000 in
set_option maxHeartbeats 4000000 in
theorem radd_walk (v u : Value) (a b : Nat) (w : World) (h : DgAt w v a) (g : DgAt w u b) (hs : (toD a).length ≤ 50000) (hs2 : (toD b).length ≤ 50000) :
    Calls Tryz.prog 178 #[v, u] w fun e w' => ∃ v', e = .returned v' ∧ DgAt w' v' (a + b) ∧ Below w.heap.size w w' := by
  obtain ⟨A, c, rfl, hc, hz, hr⟩ := h
  obtain ⟨A', c', rfl, hc', hz', hr'⟩ := g
  have he := el_toD a
  have he' := el_toD b
  have ha := (toD_length_le a (toD a).length).1 (Nat.le_refl _)
  have hb := (toD_length_le b (toD b).length).1 (Nat.le_refl _)
  generalize toD a = l at *
  generalize toD b = m at *
  obtain ⟨M, hM⟩ : ∃ M, max l.length m.length = M := ⟨_, rfl⟩
  have hMi : max (l.length : Int) (m.length : Int) = (M : Int) := by omega
  have hM1 : l.length ≤ M := by omega
  have hM2 : m.length ≤ M := by omega
  have hM3 : M ≤ l.length ∨ M ≤ m.length := by omega
  have hMb : M ≤ 50000 := by omega
  have ha2 : a < W32 ^ M := Nat.lt_of_lt_of_le ha (Nat.pow_le_pow_right W32_pos hM1)
  have hb2 : b < W32 ^ M := Nat.lt_of_lt_of_le hb (Nat.pow_le_pow_right W32_pos hM2)
  have HR := Lib.hid hr
  have HR' := Lib.hid hr'
  have HE := Lib.hid he
  have HE' := Lib.hid he'
  have HA := Lib.hid ha2
  have HB := Lib.hid hb2
  have hmk := make_u32c 0 (M + 1) 0 ((M : Int) + 1) rfl (by omega) (by omega) (by omega)
  clear hz hz' hr hr' he he' ha hb ha2 hb2 hM
  go_enter Tryz.func178, Tryz.ntmps178
  go_wp2_with fail
  have hO := OwD.made (w := w) (B := w.heap.size) (UD (List.replicate (M + 1) 0)) (M + 1) (Nat.le_refl _) (by omega) (by rw [UD_size]; simp)
  have hb0 := below_alloc' w (.cells (UD (List.replicate (M + 1) 0)) 198)
  go_loopw [5, 6, 7] (fun p q i wr => ∃ k : Nat, k ≤ M + 1 ∧ i = .int .i64 (k : Int) ∧ q = .int .u64 ((caD a b k : Nat) : Int) ∧ Hid (OwD wr w.heap.size p (paD k (a + b))) ∧ Hid (Below w.heap.size w wr)) (fun _ _ i _ => M + 1 - (intOf i).toNat)
  case atStart => exact ⟨0, by omega, rfl, by rw [caD_zero]; rfl, Lib.hid hO, Lib.hid hb0⟩
  case round =>
    obtain ⟨k, hk, rfl, rfl, HO, HW⟩ := hrel
    have HST := Lib.hid (addD_word a b k)
    have HS := Lib.hid (paD_succ k (a + b))
    have hm1 := caD_le a b k
    have HND := Lib.hid (show M ≤ k → caD a b k = 0 → a + b < W32 ^ k from fun h1 h2 => addD_done HA.out HB.out h1 h2)
    have HNO := Lib.hid (show k = M + 1 → caD a b k = 0 from fun h1 => by rw [h1]; exact caD_none HA.out HB.out)
    have hOl : (paD k (a + b)).length + 1 ≤ 1000000 := by rw [paD_length]; omega
    have hB0 : w.heap.size ≤ wr.heap.size := HW.out.size
    obtain ⟨n, hn⟩ : ∃ n, caD a b k = n := ⟨_, rfl⟩
    obtain ⟨hi, hhi⟩ : ∃ hi, caD a b (k + 1) = hi := ⟨_, rfl⟩
    obtain ⟨lo, hlo⟩ : ∃ lo, (a + b) / W32 ^ k % W32 = lo := ⟨_, rfl⟩
    obtain ⟨x, hx⟩ : ∃ x, a / W32 ^ k % W32 = x := ⟨_, rfl⟩
    obtain ⟨y, hy⟩ : ∃ y, b / W32 ^ k % W32 = y := ⟨_, rfl⟩
    have HXB := Lib.hid (show x < 4294967296 by rw [← hx, ← W32_num]; exact Nat.mod_lt _ W32_pos)
    have HYB := Lib.hid (show y < 4294967296 by rw [← hy, ← W32_num]; exact Nat.mod_lt _ W32_pos)
    have hex := HE.out k
    have hey := HE'.out k
    rw [hx] at hex
    rw [hy] at hey
    rw [hn] at HST hm1 HND HNO ⊢
    rw [hhi, hlo, hx, hy] at HST
    rw [hlo] at HS
    have HHI := Lib.hid hhi
    have HLO := Lib.hid (show lo < 4294967296 by rw [← hlo, ← W32_num]; exact Nat.mod_lt _ W32_pos)
    clear hn hhi hlo hx hy hO hb0
    by_cases cA : k < l.length
    case pos =>
      by_cases cB : k < m.length
      case pos =>
        obtain ⟨ad, rfl, hc0⟩ := (HR.out.below HW.out) (by omega)
        have hck := hc0 k (by omega)
        rw [hex] at hck
        have k1 : IntKind.u64.wrap (x : Int) = (x : Int) := by have := HXB.out; rw [IntKind.wrap_u64]; omega
        obtain ⟨ad', rfl, hc0'⟩ := (HR'.out.below HW.out) (by omega)
        have hck' := hc0' k (by omega)
        rw [hey] at hck'
        have k2 : IntKind.u64.wrap (y : Int) = (y : Int) := by have := HYB.out; rw [IntKind.wrap_u64]; omega
        obtain ⟨s, hs⟩ : ∃ s, x + y + n = s := ⟨_, rfl⟩
        obtain ⟨s1, hs1⟩ : ∃ s1, n + x = s1 := ⟨_, rfl⟩
        have k3 : IntKind.u64.wrap ((n : Int) + (x : Int)) = (s1 : Int) := by have := HXB.out; rw [IntKind.wrap_u64]; omega
        have k4 : IntKind.u64.wrap ((s1 : Int) + (y : Int)) = (s : Int) := by have := HXB.out; have := HYB.out; rw [IntKind.wrap_u64]; omega
        have k5 := mask32 s (by have := HXB.out; have := HYB.out; omega)
        have hst := HST.out
        rw [hs] at hst
        rw [hst.1] at k5
        have k6 : IntKind.u32.wrap (lo : Int) = (lo : Int) := by have := HLO.out; rw [IntKind.wrap_u32]; omega
        have k7 : (s : Int) / 4294967296 = (hi : Int) := by omega
        have ja : (k : Int) < (l.length : Int) := by omega
        have jb : (k : Int) < (m.length : Int) := by omega
        clear hst hex hey hs hc0 cA hc0' cB hs1
        go_wp2_with (at_builtin; refine wpList_appendD rfl (.tmp 53) (.tmp 57) rfl w.heap.size _ (paD k (a + b)) rfl (HO.out.alloc _) ⟨wr.heap.size, 0, none⟩ 1 1 [lo] rfl rfl (new_cell wr lo) hOl (by simp; omega) (fun v' w1 h1 h2 => ?_))
        have h3 := h2 w (HW.out.alloc hB0 _)
        rw [← HS.out] at h1
        go_roundw
        case rel => exact ⟨k + 1, by omega, by go_num, by rw [HHI.out], Lib.hid h1, Lib.hid h3⟩
        case measure => simp [intOf]; omega
      case neg =>
        obtain ⟨ad, rfl, hc0⟩ := (HR.out.below HW.out) (by omega)
        have hck := hc0 k (by omega)
        rw [hex] at hck
        have k1 : IntKind.u64.wrap (x : Int) = (x : Int) := by have := HXB.out; rw [IntKind.wrap_u64]; omega
        have hy0 : y = 0 := by rw [← hey]; exact el_out (by omega)
        obtain ⟨s, hs⟩ : ∃ s, x + y + n = s := ⟨_, rfl⟩
        have k3 : IntKind.u64.wrap ((n : Int) + (x : Int)) = (s : Int) := by have := HXB.out; rw [IntKind.wrap_u64]; omega
        have k5 := mask32 s (by have := HXB.out; have := HYB.out; omega)
        have hst := HST.out
        rw [hs] at hst
        rw [hst.1] at k5
        have k6 : IntKind.u32.wrap (lo : Int) = (lo : Int) := by have := HLO.out; rw [IntKind.wrap_u32]; omega
        have k7 : (s : Int) / 4294967296 = (hi : Int) := by omega
        have ja : (k : Int) < (l.length : Int) := by omega
        have jb : ¬ (k : Int) < (m.length : Int) := by omega
        clear hst hex hey hs hc0 cA hy0 cB
        go_wp2_with (at_builtin; refine wpList_appendD rfl (.tmp 53) (.tmp 57) rfl w.heap.size _ (paD k (a + b)) rfl (HO.out.alloc _) ⟨wr.heap.size, 0, none⟩ 1 1 [lo] rfl rfl (new_cell wr lo) hOl (by simp; omega) (fun v' w1 h1 h2 => ?_))
        have h3 := h2 w (HW.out.alloc hB0 _)
        rw [← HS.out] at h1
        go_roundw
        case rel => exact ⟨k + 1, by omega, by go_num, by rw [HHI.out], Lib.hid h1, Lib.hid h3⟩
        case measure => simp [intOf]; omega
    case neg =>
      by_cases cB : k < m.length
      case pos =>
        have hx0 : x = 0 := by rw [← hex]; exact el_out (by omega)
        obtain ⟨ad', rfl, hc0'⟩ := (HR'.out.below HW.out) (by omega)
        have hck' := hc0' k (by omega)
        rw [hey] at hck'
        have k2 : IntKind.u64.wrap (y : Int) = (y : Int) := by have := HYB.out; rw [IntKind.wrap_u64]; omega
        obtain ⟨s, hs⟩ : ∃ s, x + y + n = s := ⟨_, rfl⟩
        have k4 : IntKind.u64.wrap ((n : Int) + (y : Int)) = (s : Int) := by have := HYB.out; rw [IntKind.wrap_u64]; omega
        have k5 := mask32 s (by have := HXB.out; have := HYB.out; omega)
        have hst := HST.out
        rw [hs] at hst
        rw [hst.1] at k5
        have k6 : IntKind.u32.wrap (lo : Int) = (lo : Int) := by have := HLO.out; rw [IntKind.wrap_u32]; omega
        have k7 : (s : Int) / 4294967296 = (hi : Int) := by omega
        have ja : ¬ (k : Int) < (l.length : Int) := by omega
        have jb : (k : Int) < (m.length : Int) := by omega
        clear hst hex hey hs hx0 cA hc0' cB
        go_wp2_with (at_builtin; refine wpList_appendD rfl (.tmp 53) (.tmp 57) rfl w.heap.size _ (paD k (a + b)) rfl (HO.out.alloc _) ⟨wr.heap.size, 0, none⟩ 1 1 [lo] rfl rfl (new_cell wr lo) hOl (by simp; omega) (fun v' w1 h1 h2 => ?_))
        have h3 := h2 w (HW.out.alloc hB0 _)
        rw [← HS.out] at h1
        go_roundw
        case rel => exact ⟨k + 1, by omega, by go_num, by rw [HHI.out], Lib.hid h1, Lib.hid h3⟩
        case measure => simp [intOf]; omega
      case neg =>
        by_cases cN : n = 0
        case neg =>
          have hx0 : x = 0 := by rw [← hex]; exact el_out (by omega)
          have hy0 : y = 0 := by rw [← hey]; exact el_out (by omega)
          obtain ⟨s, hs⟩ : ∃ s, x + y + n = s := ⟨_, rfl⟩
          obtain rfl : n = s := by omega
          have hkM : k ≤ M := by
            apply Classical.byContradiction
            intro h
            exact cN (HNO.out (by omega))
          have k5 := mask32 n (by have := HXB.out; have := HYB.out; omega)
          have hst := HST.out
          simp only [hx0, hy0, Nat.zero_add] at hst
          rw [hst.1] at k5
          have k6 : IntKind.u32.wrap (lo : Int) = (lo : Int) := by have := HLO.out; rw [IntKind.wrap_u32]; omega
          have k7 : (n : Int) / 4294967296 = (hi : Int) := by omega
          have ja : ¬ (k : Int) < (l.length : Int) := by omega
          have jb : ¬ (k : Int) < (m.length : Int) := by omega
          have jn : (0 : Int) < (n : Int) := by omega
          clear hst hex hey hs hx0 cA hy0 cB
          go_wp2_with (at_builtin; refine wpList_appendD rfl (.tmp 53) (.tmp 57) rfl w.heap.size _ (paD k (a + b)) rfl (HO.out.alloc _) ⟨wr.heap.size, 0, none⟩ 1 1 [lo] rfl rfl (new_cell wr lo) hOl (by simp; omega) (fun v' w1 h1 h2 => ?_))
          have h3 := h2 w (HW.out.alloc hB0 _)
          rw [← HS.out] at h1
          go_roundw
          case rel => exact ⟨k + 1, by omega, by go_num, by rw [HHI.out], Lib.hid h1, Lib.hid h3⟩
          case measure => simp [intOf]; omega
        case pos =>
          have HV := Lib.hid (show vd (paD k (a + b)) = a + b from vd_paD_of (HND.out (by omega) cN))
          have HN := rnorm_walk _ _ _ HO.out.ls (We_paD _ _) (by rw [paD_length]; omega)
          rw [HV.out] at HN
          have HN2 := Lib.hid HN
          have ja : ¬ (k : Int) < (l.length : Int) := by omega
          have jb : ¬ (k : Int) < (m.length : Int) := by omega
          have jn : ¬ (0 : Int) < (n : Int) := by omega
          clear HN cA cB cN hex hey
          go_wp2_with fail
          refine HN2.out.mono ?_
          rintro e w2 ⟨v2, rfl, hn2, hb2⟩
          have HD2 := Lib.hid hn2
          have HW2 := Lib.hid (below_next HW.out HW.out.size hb2)
          obtain ⟨A2, c2, rfl, hc2, hz2, hr2⟩ := hn2
          clear hc2 hz2 hr2 hb2
          go_wp2
          go_ret
          exact ⟨_, rfl, HD2.out, HW2.out⟩
theorem OwD.zeros {w : World} {B : Nat} (k n : Nat) (hb : B ≤ w.heap.size) (hk : k ≤ n) (hm : n ≤ 1000000) : OwD (w.alloc (.cells (UD (List.replicate n 0)) 198)) B (.slice (some ⟨w.heap.size, 0, none⟩) k n) (List.replicate k 0) := by
  unfold OwD
  rw [List.length_replicate]
  refine ⟨by simp [UD], .inr ⟨w.heap.size, n, UD (List.replicate n 0), rfl, hb, heap_alloc_new w _, hk, by unfold maxLen; omega, by rw [UD_size]; simp, ?_⟩⟩
  simp only [UD, List.map_replicate, Nat.mul_one]
  rw [List.take_replicate, Nat.min_eq_left hk]
theorem vd_zeros (k : Nat) (l : List Nat) : vd (List.replicate k 0 ++ l) = W32 ^ k * vd l := by
  induction k with
  | zero => simp
  | succ k ih => rw [List.replicate_succ, List.cons_append, vd, ih, Nat.pow_succ]; simp only [Nat.zero_add]; ac_rfl
theorem We_zeros (k : Nat) {l : List Nat} (h : We l) : We (List.replicate k 0 ++ l) := by
  intro x hx
  rcases List.mem_append.1 hx with hx | hx
  · rw [(List.mem_replicate.1 hx).2]; exact W32_pos
  · exact h x hx
theorem toD_drop (a k : Nat) : (toD a).drop k = toD (a / W32 ^ k) := by
  induction k generalizing a with
  | zero => simp
  | succ k ih =>
    by_cases h : a = 0
    · rw [h, toD_zero, Nat.zero_div, toD_zero]; simp
    · rw [toD_pos h, List.drop_succ_cons, ih, Nat.pow_succ, Nat.div_div_eq_div_mul, Nat.mul_comm W32]
theorem pow_parts (n : Nat) : 2 ^ n = W32 ^ (n / 32) * 2 ^ (n % 32) := by rw [W32_pow, ← Nat.pow_add]; congr 1; omega

set_option maxRecDepth 100000 in
set_option maxHeartbeats 2000000 in
theorem rshl_walk (v : Value) (a : Nat) (i : Int) (w : World) (h : DgAt w v a) (hi : 0 ≤ i) (hi2 : i ≤ 1000000) (hs : (toD a).length ≤ 40000) :
    Calls Tryz.prog 184 #[v, .int .i64 i] w fun e w' => ∃ v', e = .returned v' ∧ DgAt w' v' (a * 2 ^ i.toNat) ∧ Below w.heap.size w w' := by
  obtain ⟨n, rfl⟩ := Int.eq_ofNat_of_zero_le hi
  simp only [Int.toNat_natCast]
  have hN := rnorm_walk v (toD a) w h (We_toD a) (by omega)
  rw [vd_toD] at hN
  have hmul : ∀ W, Below w.heap.size w W → Calls Tryz.prog 207 #[v, .int .u32 ((2 ^ (n % 32) : Nat) : Int), .int .u32 0] W fun e w' => ∃ v', e = .returned v' ∧ DgAt w' v' (a * 2 ^ (n % 32)) ∧ Below W.heap.size W w' := fun W hW => rmul_walk v a (2 ^ (n % 32)) 0 W (h.below hW) (show 2 ^ (n % 32) < 2 ^ 32 from Nat.pow_lt_pow_right (by omega) (by omega)) (by omega) (by omega)
  have h0 := toD_length_zero a
  have halt := (toD_length_le a (toD a).length).1 (Nat.le_refl _)
  obtain ⟨A, c, rfl, hc, hz, hr⟩ := h
  generalize toD a = l at *
  by_cases hq : n = 0 ∨ a = 0
  · have he : a * 2 ^ n = a := by rcases hq with h | h <;> subst h <;> simp
    rw [he]
    have HN := Lib.hid hN
    have hq2 : n = 0 ∨ (0 < n ∧ l.length = 0) := by
      rcases Nat.eq_zero_or_pos n with h1 | h1
      · exact .inl h1
      · exact .inr ⟨h1, h0.2 (hq.elim (fun e => by omega) id)⟩
    clear hN hmul h0 hr hz hq he
    rcases hq2 with hn | ⟨hn, hl⟩
    · have hni : (n : Int) ≤ 0 := by omega
      clear hn
      go_enter Tryz.func184, Tryz.ntmps184
      go_wp2_with fail
      refine HN.out.mono ?_
      rintro e w2 ⟨v2, rfl, hn2, hb2⟩
      have HD2 := Lib.hid hn2
      obtain ⟨A2, c2, rfl, hc2, hz2, hr2⟩ := hn2
      clear hc2 hz2 hr2
      go_wp2
      go_ret
      exact ⟨_, rfl, HD2.out, hb2⟩
    · have hni : ¬ (n : Int) ≤ 0 := by omega
      have hl2 : ((l.length : Int) == 0) = true := by simp [hl]
      clear hn hl
      go_enter Tryz.func184, Tryz.ntmps184
      go_wp2_with fail
      refine HN.out.mono ?_
      rintro e w2 ⟨v2, rfl, hn2, hb2⟩
      have HD2 := Lib.hid hn2
      obtain ⟨A2, c2, rfl, hc2, hz2, hr2⟩ := hn2
      clear hc2 hz2 hr2
      go_wp2
      go_ret
      exact ⟨_, rfl, HD2.out, hb2⟩
  · have ha : a ≠ 0 := fun e => hq (.inr e)
    have hn : 0 < n := by omega
    have hni : ¬ (n : Int) ≤ 0 := by omega
    have hl2 : ((l.length : Int) == 0) = false := by rw [beq_eq_false_iff_ne]; have := fun e => ha (h0.1 e); omega
    obtain ⟨p, hp⟩ : ∃ p, a * 2 ^ (n % 32) = p := ⟨_, rfl⟩
    rw [hp] at hmul
    have hp0 : p ≠ 0 := by rw [← hp]; exact Nat.mul_ne_zero ha (by have := Nat.two_pow_pos (n % 32); omega)
    have hpl : (toD p).length ≤ l.length + 1 := by
      rw [toD_length_le, ← hp, Nat.pow_succ]
      have h5 : 2 ^ (n % 32) ≤ W32 := by rw [W32_eq]; exact Nat.pow_le_pow_right (by omega) (by omega)
      exact Nat.lt_of_lt_of_le (Nat.mul_lt_mul_of_pos_right halt (Nat.two_pow_pos _)) (Nat.mul_le_mul_left _ h5)
    have HFIN := Lib.hid (show vd (List.replicate (n / 32) 0 ++ toD p) = a * 2 ^ n by
      rw [vd_zeros, vd_toD, ← hp, pow_parts n]; ac_rfl)
    obtain ⟨z, hzz⟩ : ∃ z, 2 ^ (n % 32) = z := ⟨_, rfl⟩
    have HSH := Lib.hid (show ((2 : Int) ^ (n % 32)) % 4294967296 = (z : Int) by
      have h3 : 2 ^ (n % 32) < 2 ^ 32 := Nat.pow_lt_pow_right (by omega) (by omega)
      have e2 : ((2 : Int) ^ (n % 32)) = ((2 ^ (n % 32) : Nat) : Int) := by simp
      rw [e2, hzz]
      rw [hzz] at h3
      omega)
    rw [hzz] at hmul
    have hpz : 0 < (toD p).length := Nat.pos_of_ne_zero fun e => hp0 ((toD_length_zero p).1 e)
    have HMUL := Lib.hid hmul
    have HWP := Lib.hid (We_toD p)
    have hmod : ((n : Int) % 32).toNat = n % 32 := by omega
    generalize hTP : toD p = t at *
    have HTP := Lib.hid hTP
    clear hTP
    have hnb : n / 32 ≤ 40000 := by omega
    have hnn : (n : Int) / 32 = ((n / 32 : Nat) : Int) := by omega
    obtain ⟨q, hq2⟩ : ∃ q, n / 32 = q := ⟨_, rfl⟩
    rw [hq2] at HFIN hnb hnn
    have hmk := make_u32c q (q + l.length + 1) (q : Int) ((q : Int) + (l.length : Int) + 1) rfl (by omega) (by omega) (by omega)
    clear hN hmul hp hp0 h0 halt hr hz hq ha hn
    go_enter Tryz.func184, Tryz.ntmps184
    go_wp2_with fail
    have hO := OwD.zeros (w := w) (B := w.heap.size) q (q + l.length + 1) (Nat.le_refl _) (by omega) (by omega)
    have hb0 := below_alloc' w (.cells (UD (List.replicate (q + l.length + 1) 0)) 198)
    have HB0 := Lib.hid hb0
    have HO := Lib.hid hO
    clear hO hb0
    rw [HSH.out]
    refine (HMUL.out _ HB0.out).mono ?_
    rintro e w1 ⟨v1, rfl, hn1, hb1⟩
    have hn1' : LsD w1 v1 t := by rw [← HTP.out]; exact hn1
    have HW1 := Lib.hid (below_chain HB0.out hb1)
    have HO1 := Lib.hid (show OwD w1 w.heap.size (.slice (some ⟨w.heap.size, 0, none⟩) q (q + l.length + 1)) (List.replicate q 0) from World.ownsRow.kept HO.out ⟨hb1.os, hb1.tape, hb1.output, hb1.size, fun k hk _ => hb1.block k hk⟩ (row := none) (by simp [Value.ownBlock]))
    obtain ⟨A2, c2, rfl, hc2, hz2, hr2⟩ := hn1'
    obtain ⟨ad2, rfl, hcl2⟩ := hr2 hpz
    have HCL := Lib.hid hcl2
    have hlen : (List.replicate q 0).length + t.length ≤ 1000000 := by rw [List.length_replicate]; omega
    clear hn1 hc2 hz2 hr2 hcl2 hb1
    go_wp2_with (at_builtin; refine wpList_appendD rfl (.tmp 24) (.tmp 29) rfl w.heap.size _ (List.replicate q 0) rfl HO1.out ad2 t.length c2 t rfl rfl HCL.out hlen HW1.out.size (fun v' w2 h1 h2 => ?_))
    have h3 := h2 w HW1.out
    have HN := rnorm_walk _ _ _ h1.ls (We_zeros q HWP.out) (by rw [List.length_append, List.length_replicate]; omega)
    rw [HFIN.out] at HN
    have HN2 := Lib.hid HN
    have H3 := Lib.hid h3
    clear h1 h2 h3 HN
    go_wp2_with fail
    refine HN2.out.mono ?_
    rintro e w3 ⟨v3, rfl, hn3, hb3⟩
    have HD3 := Lib.hid hn3
    obtain ⟨A3, c3, rfl, hc3, hz3, hr3⟩ := hn3
    clear hc3 hz3 hr3
    go_wp2
    go_ret
    exact ⟨_, rfl, HD3.out, below_next H3.out H3.out.size hb3⟩

theorem add_add (ad : Addr) (q j : Nat) : (ad.add q).add j = ad.add (q + j) := by
  cases q with
  | zero => rw [Addr.add_zero', Nat.zero_add]
  | succ q => cases j with
    | zero => rw [Addr.add_zero', Nat.add_zero]
    | succ j => simp [Addr.add, Nat.add_assoc]
theorem el_dropD {l : List Nat} {q j : Nat} : el (l.drop q) j = el l (q + j) := by
  simp [el, List.getD_eq_getElem?_getD, List.getElem?_drop]
theorem shr_small {a n : Nat} (h : (toD a).length ≤ n / 32) : a / 2 ^ n = 0 := by
  have h1 := (toD_length_le a _).1 h
  apply Nat.div_eq_of_lt
  rw [pow_parts]
  exact Nat.lt_of_lt_of_le h1 (Nat.le_mul_of_pos_right _ (Nat.two_pow_pos _))

set_option maxRecDepth 100000 in
set_option maxHeartbeats 2000000 in
theorem rshr_walk (v : Value) (a : Nat) (i : Int) (w : World) (h : DgAt w v a) (hi : 0 ≤ i) (hi2 : i ≤ 10000000) (hs : (toD a).length ≤ 40000) :
    Calls Tryz.prog 211 #[v, .int .i64 i] w fun e w' => ∃ v', e = .returned v' ∧ DgAt w' v' (a / 2 ^ i.toNat) ∧ Below w.heap.size w w' := by
  obtain ⟨n, rfl⟩ := Int.eq_ofNat_of_zero_le hi
  simp only [Int.toNat_natCast]
  have hN := rnorm_walk v (toD a) w h (We_toD a) (by omega)
  rw [vd_toD] at hN
  have hsm := @shr_small a n
  have hdr := toD_drop a (n / 32)
  obtain ⟨A, c, rfl, hc, hz, hr⟩ := h
  generalize toD a = l at *
  rcases Nat.eq_zero_or_pos n with hn | hn
  · have hni : (n : Int) ≤ 0 := by omega
    have he : a / 2 ^ n = a := by rw [hn]; simp
    rw [he]
    have HN := Lib.hid hN
    clear hN hr hz hsm hdr hn he
    go_enter Tryz.func211, Tryz.ntmps211
    go_wp2_with fail
    refine HN.out.mono ?_
    rintro e w2 ⟨v2, rfl, hn2, hb2⟩
    have HD2 := Lib.hid hn2
    obtain ⟨A2, c2, rfl, hc2, hz2, hr2⟩ := hn2
    clear hc2 hz2 hr2
    go_wp2
    go_ret
    exact ⟨_, rfl, HD2.out, hb2⟩
  have hni : ¬ (n : Int) ≤ 0 := by omega
  have hnn : (n : Int) / 32 = ((n / 32 : Nat) : Int) := by omega
  by_cases hlen : l.length ≤ n / 32
  · rw [hsm hlen]
    have HWd := Lib.hid (fun w => rword_walk 0 (by omega) w)
    have hli : (l.length : Int) ≤ (n : Int) / 32 := by omega
    clear hN hr hz hsm hdr hn hlen hnn
    go_enter Tryz.func211, Tryz.ntmps211
    go_wp2_with fail
    refine (HWd.out _).mono ?_
    rintro e w2 ⟨v2, rfl, hn2, hb2⟩
    have HD2 := Lib.hid hn2
    obtain ⟨A2, c2, rfl, hc2, hz2, hr2⟩ := hn2
    clear hc2 hz2 hr2
    go_wp2
    go_ret
    exact ⟨_, rfl, HD2.out, hb2⟩
  · obtain ⟨ad, rfl, hc0⟩ := hr (by omega)
    have hli : ¬ (l.length : Int) ≤ (n : Int) / 32 := by omega
    obtain ⟨q, hq⟩ : ∃ q, n / 32 = q := ⟨_, rfl⟩
    rw [hq] at hdr hnn hlen
    have hdg : DgAt w (.slice (some (ad.add q)) (l.length - q) (c - q)) (a / W32 ^ q) := by
      unfold DgAt
      rw [← hdr]
      refine ⟨some (ad.add q), c - q, by rw [List.length_drop], by rw [List.length_drop]; omega, (fun e => by cases e), fun _ => ⟨_, rfl, fun j hj => ?_⟩⟩
      rw [List.length_drop] at hj
      have := hc0 (q + j) (by omega)
      rw [add_add, this, ← el_dropD]
    have hdiv := rdiv_walk _ _ (2 ^ (n % 32)) w.drew (hdg.below (below_dn (Below.refl _ _) 1)) (Nat.two_pow_pos _) (show 2 ^ (n % 32) < 2 ^ 32 from Nat.pow_lt_pow_right (by omega) (by omega)) (by rw [← hdr, List.length_drop]; omega)
    have HFIN := Lib.hid (show a / W32 ^ q / 2 ^ (n % 32) = a / 2 ^ n by rw [Nat.div_div_eq_div_mul, pow_parts n, hq])
    obtain ⟨r, hrr⟩ : ∃ r, n % 32 = r := ⟨_, rfl⟩
    rw [hrr] at hdiv HFIN
    have hr32 : r < 32 := by omega
    have htm : (n : Int).tmod 32 = (r : Int) := by rw [Int.tmod_eq_emod_of_nonneg (by omega)]; omega
    obtain ⟨z, hzz⟩ : ∃ z, 2 ^ r = z := ⟨_, rfl⟩
    have hz32 : z < 2 ^ 32 := by rw [← hzz]; exact Nat.pow_lt_pow_right (by omega) hr32
    have e2 : ((2 : Int) ^ r) = (z : Int) := by rw [← hzz]; simp
    have k1 : IntKind.i64.wrap (q : Int) = (q : Int) := by rw [IntKind.wrap_i64]; omega
    have k3 : IntKind.i64.wrap (r : Int) = (r : Int) := by rw [IntKind.wrap_i64]; omega
    have k4 : IntKind.u32.wrap (z : Int) = (z : Int) := by rw [IntKind.wrap_u32]; omega
    have k5 : (0 : Int) ≤ (r : Int) := by omega
    rw [hzz] at hdiv HFIN
    rw [HFIN.out] at hdiv
    have HDIV := Lib.hid (fun W (hW : W = w.drew) => show Calls Tryz.prog 180 #[.slice (some (ad.add q)) (l.length - q) (c - q),   .int .u32 (z : Int)] W _ from hW ▸ hdiv)
    have hql : q ≤ l.length := by omega
    have hqc : q ≤ c := by omega
    have hnb : n / 32 ≤ 40000 := by omega
    have r1 : (q : Int) ≤ (l.length : Int) := by omega
    have r2 : (q : Int) ≤ (c : Int) := by omega
    have r3 : (0 : Int) ≤ (q : Int) := by omega
    have r5 : ¬ c = q := by omega
    have hsl2 : ∀ W : World, (Instr.slice 184 (.slice (some ad) l.length c) (some (.int .i64 (q : Int))) none none).run Tryz.prog W = .ok (.slice (some (ad.add q)) (l.length - q) (c - q)) W := fun W => by
      have h1 : Tryz.prog.underlying 184 = some (.slice (Tryz.prog.elem 184)) := by kernel_rfl
      have h2 : (sizeOf (Tryz.prog.elem 184)).run Tryz.prog W = .ok 1 W := by kernel_rfl
      rw [run_slice_l W _ _ _ _ h1 .i64 (q : Int) (by omega) (by omega), h2]
      simp [Result.andThen, sliced, r5]
    have hsl : ∀ W : World, (Instr.sliceAt 184 (.slice (some ad) l.length c) (some (.int .i64 (q : Int))) none none).run Tryz.prog W = .ok (.slice (some (ad.add q)) (l.length - q) (c - q)) W := fun W => by
      have h1 : Tryz.prog.underlying 184 = some (.slice (Tryz.prog.elem 184)) := by kernel_rfl
      have h2 : (sizeOf (Tryz.prog.elem 184)).run Tryz.prog W = .ok 1 W := by kernel_rfl
      rw [run_sliceAt_slice W _ _ _ _ _ h1, run_slice_l W _ _ _ _ h1 .i64 (q : Int) (by omega) (by omega), h2]
      simp [Result.andThen, sliced, r5]
    have r4 : (l.length : Int) ≤ (c : Int) := by omega
    clear hdiv hN hc0 hr hsm hdr hdg hzz hn hlen hz32 hrr hq
    go_enter Tryz.func211, Tryz.ntmps211
    go_wp2_with fail
    go_region_with (go_at_call 180; refine (HDIV.out _ rfl).mono ?_; rintro e w5 ⟨v5, rfl, hn5, hb5⟩; have HD5 := Lib.hid hn5; obtain ⟨A5, c5, rfl, hc5, hz5, hr5⟩ := hn5; clear hc5 hz5 hr5)
    all_goals
      go_wp2
      go_ret
      exact ⟨_, rfl, HD5.out, (Below.refl _ _).drew.trans hb5⟩
end Go.Proofs.YtmfjimmodaofdaaGreatDoor

namespace Go.Proofs.YtmfjimmodaofdaaGreatDoor
open Go.RowKit

set_option maxRecDepth 100000 in
set_option maxHeartbeats 2000000 in
theorem rprod_walk (v u : Value) (a b : Nat) (w : World) (h : DgAt w v a) (g : DgAt w u b) (hs : (toD a).length ≤ 40000) (hs2 : (toD b).length ≤ 40000) :
    Calls Tryz.prog 187 #[v, u] w fun e w' => ∃ x, e = .returned x ∧ DgAt w' x (a * b) ∧ Below w.heap.size w w' := by
  obtain ⟨A, ca, rfl, hca, hza, hra⟩ := h
  obtain ⟨B, cb, rfl, hcb, hzb, hrb⟩ := g
  have hea := el_toD a
  have heb := el_toD b
  have ha := (toD_length_le a (toD a).length).1 (Nat.le_refl _)
  have hb := (toD_length_le b (toD b).length).1 (Nat.le_refl _)
  obtain ⟨la, hla⟩ : ∃ la, (toD a).length = la := ⟨_, rfl⟩
  obtain ⟨lb, hlb⟩ : ∃ lb, (toD b).length = lb := ⟨_, rfl⟩
  rw [hla] at hs ha ⊢
  rw [hlb] at hs2 hb ⊢
  obtain ⟨m, hm⟩ : ∃ m, la + lb = m := ⟨_, rfl⟩
  have hmk := make_u32 m (by omega)
  have hB0 := BlD.new w (List.replicate m 0)
  have hz0 : List.replicate m 0 = paD m ((a % W32 ^ 0) * b) := by rw [Nat.pow_zero, Nat.mod_one, Nat.zero_mul, paD_zero_rep]
  have hw0 := below_alloc' w (.cells (UD (List.replicate m 0)) 198)
  rw [hz0] at hB0
  have hB0' : BlD (w.alloc (.cells (UD (List.replicate m 0)) 198)) w.heap.size (paD m ((a % W32 ^ 0) * b)) := by rw [hz0]; exact hB0
  have HZ := Lib.hid hB0'
  have HW0 := Lib.hid hw0
  have HA := Lib.hid hra
  have HB := Lib.hid hrb
  have HLa := Lib.hid (show a < W32 ^ la ∧ (toD a).length = la ∧ ∀ j, el (toD a) j = a / W32 ^ j % W32 from ⟨ha, hla, hea⟩)
  have HLb := Lib.hid (show b < W32 ^ lb ∧ (toD b).length = lb ∧ ∀ j, el (toD b) j = b / W32 ^ j % W32 from ⟨hb, hlb, heb⟩)
  have HM := Lib.hid (show la + lb = m ∧ la ≤ 40000 ∧ lb ≤ 40000 from ⟨hm, hs, hs2⟩)
  have hmi : IntKind.i64.wrap ((la : Int) + (lb : Int)) = (m : Int) := by rw [IntKind.wrap_i64]; omega
  clear hz0 hB0 hB0' hw0 hra hrb ha hb hea heb hla hlb hm hs hs2 hca hza hcb hzb
  go_enter Tryz.func187, Tryz.ntmps187
  go_wp2_with fail
  clear hmk hmi
  go_loopw [6] (fun i wr => ∃ k : Nat, k ≤ la ∧ i = .int .i64 (k : Int) ∧ Hid (BlD wr w.heap.size (paD m ((a % W32 ^ k) * b))) ∧ Hid (Below w.heap.size w wr)) (fun i _ => la - (intOf i).toNat)
  case atStart => exact ⟨0, by omega, rfl, HZ, HW0⟩
  case round =>
    obtain ⟨k, hk, rfl, HX, HK⟩ := hrel
    by_cases hkl : k < la
    · have hkli : (k : Int) < (la : Int) := by omega
      have hM := HM.out
      have hkw : IntKind.i64.wrap ((k : Int) + 1) = (k : Int) + 1 := by rw [IntKind.wrap_i64]; omega
      obtain ⟨ada, hAe, hca0⟩ := (HA.out.below HK.out) (by have := HLa.out.2.1; omega)
      have hda := hca0 k (by have := HLa.out.2.1; omega)
      rw [HLa.out.2.2 k] at hda
      have hdl : a / W32 ^ k % W32 < W32 := Nat.mod_lt _ W32_pos
      obtain ⟨d, hd⟩ : ∃ d, a / W32 ^ k % W32 = d := ⟨_, rfl⟩
      rw [hd] at hda hdl
      obtain ⟨X, hX⟩ : ∃ X, (a % W32 ^ k) * b = X := ⟨_, rfl⟩
      obtain ⟨X', hX'⟩ : ∃ X', X + W32 ^ k * (b * d) = X' := ⟨_, rfl⟩
      have hXn : (a % W32 ^ (k + 1)) * b = X' := by
        rw [modD_pow_succ, hd, Nat.add_mul, hX, ← hX']
        have : W32 ^ k * d * b = W32 ^ k * (b * d) := by ac_rfl
        rw [this, Nat.add_comm]
      have hXl : X < W32 ^ (k + lb) := by
        rw [← hX, Nat.pow_add]
        exact Nat.mul_lt_mul'' (Nat.mod_lt _ (Nat.pow_pos W32_pos)) HLb.out.1
      have HE := Lib.hid (show (miD m (k + lb) X' X).set (k + lb) (mcD (X / W32 ^ k) b d lb) = paD m X' from by
        rw [← hX']; exact (rowD_end (by omega) hXl HLb.out.1 hdl).1)
      have hS0 : miD m k X' X = paD m X := by rw [← hX']; exact miD_start (by omega)
      have HX1 := HX.out
      rw [hX, ← hS0] at HX1
      have HX2 := Lib.hid HX1
      have HXn := Lib.hid hXn
      have HXX := Lib.hid hX'
      have HD := Lib.hid (show d < W32 from hdl)
      have kd : IntKind.u64.wrap (d : Int) = (d : Int) := by rw [W32_num] at hdl; rw [IntKind.wrap_u64]; omega
      have HL := Lib.hid hkl
      clear HX1 hS0 hXn hX' hXl hX hd hdl hca0 hM hkl hk
      subst hAe
      go_wp2_with fail
      clear kd
      go_loopw [7, 9] (fun cy i wr2 => ∃ t : Nat, t ≤ lb ∧ i = .int .i64 (t : Int) ∧ cy = .int .u64 ((mcD (X / W32 ^ k) b d t : Nat) : Int) ∧ Hid (BlD wr2 w.heap.size (miD m (k + t) X' X)) ∧ Hid (Below w.heap.size w wr2)) (fun _ i _ => lb - (intOf i).toNat)
      case atStart => exact ⟨0, by omega, rfl, by rw [mcD_zero]; rfl, HX2, HK⟩
      case round =>
        obtain ⟨t, ht, rfl, rfl, HT, HKt⟩ := hrel
        have hcl := mcD_lt (X / W32 ^ k) b d t HD.out
        by_cases htl : t < lb
        · have hM := HM.out
          have hti : (t : Int) < (lb : Int) := by omega
          obtain ⟨n, hn⟩ : ∃ n, k + t = n := ⟨_, rfl⟩
          obtain ⟨adb, hBe, hcb0⟩ := (HB.out.below HKt.out) (by have := HLb.out.2.1; omega)
          have c1 := hcb0 t (by have := HLb.out.2.1; omega)
          rw [HLb.out.2.2 t] at c1
          have hT1 := HT.out
          rw [hn] at hT1
          have hnm : n < m := by have := HL.out; omega
          have c3 := hT1.cell (j := n) (by rw [miD_length (by omega)]; omega)
          rw [el_miD hnm, if_neg (by omega)] at c3
          have f3 := hT1.frozen n
          have hlen : (miD m n X' X).length = m := miD_length (by omega)
          obtain ⟨s1, s2⟩ := mcD_step (X / W32 ^ k) b d t
          have hacc := accD_high X k (b * d) t
          rw [HXX.out, hn] at hacc
          rw [← hacc] at s1
          rw [Nat.div_div_eq_div_mul, ← Nat.pow_add, hn] at s1 s2
          have hal : b / W32 ^ t % W32 < W32 := Nat.mod_lt _ W32_pos
          have hzl : X / W32 ^ n % W32 < W32 := Nat.mod_lt _ W32_pos
          have hset := fun q => (hT1.below (below_dn (Below.refl _ _) q)).set n (X' / W32 ^ n % W32)
          rw [miD_set hnm] at hset
          have HSet := Lib.hid hset
          obtain ⟨cn, hcn⟩ : ∃ cn, mcD (X / W32 ^ k) b d (t + 1) = cn := ⟨_, rfl⟩
          rw [hcn] at s2
          have HCn := Lib.hid hcn
          obtain ⟨cy, hcy⟩ : ∃ cy, mcD (X / W32 ^ k) b d t = cy := ⟨_, rfl⟩
          obtain ⟨bi, hbi⟩ : ∃ bi, b / W32 ^ t % W32 = bi := ⟨_, rfl⟩
          obtain ⟨zi, hzi⟩ : ∃ zi, X / W32 ^ n % W32 = zi := ⟨_, rfl⟩
          obtain ⟨zn, hzn⟩ : ∃ zn, X' / W32 ^ n % W32 = zn := ⟨_, rfl⟩
          rw [hcy] at s1 s2 hcl ⊢
          rw [hbi] at c1 s1 s2 hal
          rw [hzi] at c3 s1 s2 hzl
          rw [hzn] at s1 HSet
          have hdd := HD.out
          rw [W32_num] at hal hzl hcl hdd s1 s2
          have hpb : bi * d ≤ 4294967295 * 4294967295 := Nat.mul_le_mul (by omega) (by omega)
          obtain ⟨y, hy⟩ : ∃ y, bi * d = y := ⟨_, rfl⟩
          rw [hy] at s1 s2 hpb
          have hmul : (d : Int) * (bi : Int) = (y : Int) := by rw [← hy, Int.natCast_mul, Int.mul_comm]
          obtain ⟨s, hs⟩ : ∃ s, zi + y + cy = s := ⟨_, rfl⟩
          rw [hs] at s1 s2
          have hsb : s < 18446744073709551616 := by omega
          have k1 : IntKind.u64.wrap (bi : Int) = (bi : Int) := by rw [IntKind.wrap_u64]; omega
          have k2 : IntKind.u64.wrap (zi : Int) = (zi : Int) := by rw [IntKind.wrap_u64]; omega
          have k3 : IntKind.u64.wrap ((d : Int) * (bi : Int)) = (y : Int) := by rw [hmul, IntKind.wrap_u64]; omega
          have k4 : IntKind.u64.wrap ((zi : Int) + (y : Int)) = (zi : Int) + (y : Int) := by rw [IntKind.wrap_u64]; omega
          have k5 : IntKind.u64.wrap ((cy : Int) + ((zi : Int) + (y : Int))) = (s : Int) := by rw [IntKind.wrap_u64]; omega
          have k6 := mask32 s hsb
          rw [← s1] at k6
          have k7 : IntKind.u32.wrap (zn : Int) = (zn : Int) := by rw [IntKind.wrap_u32]; omega
          have k8 : (s : Int) / 4294967296 = (cn : Int) := by omega
          have k9 : IntKind.i64.wrap ((k : Int) + (t : Int)) = (n : Int) := by rw [IntKind.wrap_i64]; omega
          have g1 : (n : Int) < (m : Int) := by omega
          have HTn := Lib.hid (show k + (t + 1) = n + 1 ∧ t < lb from ⟨by omega, htl⟩)
          have hwt : IntKind.i64.wrap ((t : Int) + 1) = (t : Int) + 1 := by rw [IntKind.wrap_i64]; omega
          have n0 : (0 : Int) ≤ (n : Int) := by omega
          clear s1 s2 hacc hal hzl hcl hset hcn hcy hbi hzi hzn hpb hy hmul hs hsb hdd hM hn hnm htl ht hcb0 hT1 hlen hda
          subst hBe
          go_wp2_with fail
          go_quiet (fail)
          go_wp2_with fail
          have HB2 := HSet.out nq
          have HK2 := Lib.hid (show Below w.heap.size w ((wr.drewN nq).setCell ⟨w.heap.size, n, none⟩ (.int .u32 (zn : Int))) from (below_dn HKt.out nq).setCell (Nat.le_refl _) _)
          go_roundw
          case rel => exact ⟨t + 1, HTn.out.2, by simp, by rw [HCn.out], Lib.hid (by rw [HTn.out.1]; exact HB2), HK2⟩
          case measure => have := HTn.out; simp [intOf]; omega
        · have htb : t = lb := by omega
          subst htb
          have hti : ¬ (t : Int) < (t : Int) := by omega
          have hM := HM.out
          obtain ⟨n, hn⟩ : ∃ n, k + t = n := ⟨_, rfl⟩
          have hT1 := HT.out
          rw [hn] at hT1
          have hnm : n < m := by have := HL.out; omega
          have c3 := hT1.cell (j := n) (by rw [miD_length (by omega)]; omega)
          have f3 := hT1.frozen n
          have hset := hT1.set n (mcD (X / W32 ^ k) b d t)
          have hE := HE.out
          rw [hn] at hE
          rw [hE] at hset
          have HSet := Lib.hid hset
          obtain ⟨zi, hzi⟩ : ∃ zi, el (miD m n X' X) n = zi := ⟨_, rfl⟩
          rw [hzi] at c3
          obtain ⟨cy, hcy⟩ : ∃ cy, mcD (X / W32 ^ k) b d t = cy := ⟨_, rfl⟩
          rw [hcy] at hcl HSet ⊢
          rw [W32_num] at hcl
          have k7 : IntKind.u32.wrap (cy : Int) = (cy : Int) := by rw [IntKind.wrap_u32]; omega
          have k9 : IntKind.i64.wrap ((k : Int) + (t : Int)) = (n : Int) := by rw [IntKind.wrap_i64]; omega
          have g1 : (n : Int) < (m : Int) := by omega
          have n0 : (0 : Int) ≤ (n : Int) := by omega
          clear hcl hset hE hT1 hzi hcy hM hn hnm htl ht hda
          go_wp2_with fail
          have HK2 := Lib.hid (show Below w.heap.size w (wr.setCell ⟨w.heap.size, n, none⟩ (.int .u32 (cy : Int))) from HKt.out.setCell (Nat.le_refl _) _)
          go_roundw
          case rel => exact ⟨k + 1, HL.out, by simp, by rw [HXn.out]; exact HSet, HK2⟩
          case measure => have := HL.out; simp [intOf]; omega
    · have hke : k = la := by omega
      subst hke
      have hti : ¬ (k : Int) < (k : Int) := by omega
      have hval : (a % W32 ^ k) * b = a * b := by rw [Nat.mod_eq_of_lt HLa.out.1]
      have hlt : a * b < W32 ^ m := by rw [← HM.out.1, Nat.pow_add]; exact Nat.mul_lt_mul'' HLa.out.1 HLb.out.1
      have hX1 := HX.out
      rw [hval] at hX1
      have HN := rnorm_walk _ _ _ (hX1.ls m (by rw [paD_length]; exact Nat.le_refl _)) (We_paD _ _) (by rw [paD_length]; have := HM.out; omega)
      rw [vd_paD_of hlt, paD_length] at HN
      have HN2 := Lib.hid HN
      clear hkl hk hval hlt hX1 HN
      go_wp2_with fail
      refine HN2.out.mono ?_
      rintro e w2 ⟨v2, rfl, hn2, hb2⟩
      have HD2 := Lib.hid hn2
      obtain ⟨A2, c2, rfl, hc2, hz2, hr2⟩ := hn2
      clear hc2 hz2 hr2
      go_wp2
      go_ret
      exact ⟨_, rfl, HD2.out, below_chain HK.out hb2⟩
end Go.Proofs.YtmfjimmodaofdaaGreatDoor
