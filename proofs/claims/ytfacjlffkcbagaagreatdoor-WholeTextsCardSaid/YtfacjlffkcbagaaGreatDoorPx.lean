/- Plain facts: a pattern's number to n digits; 17 (of Single 9) digits tell it; the text of Digits read back. -/
import Derived.Test.YtfacjlffkcbagaaGreatDoorQt
namespace Go.Proofs.YtfacjlffkcbagaaGreatDoor
open Go.RowKit

/-- The number of z in units of 10^q, rounded to the nearest whole one. -/
def nrN (f : Fm) (z : Nat) (q : Int) : Nat := if shN f z q then shL f z q else shL f z q + 1
theorem nr_near (f : Fm) (z : Nat) (q : Int) (h0 : z ≠ 0) : 2 * (nrN f z q * ufF f q) ≤ 2 * (2 * vP f z * ufG q) + ufF f q ∧ 2 * (2 * vP f z * ufG q) ≤ 2 * (nrN f z q * ufF f q) + ufF f q ∧ shL f z q ≤ nrN f z q ∧ nrN f z q ≤ shL f z q + 1 := by
  obtain ⟨_, _, e, hr⟩ := sh_frame f z q h0
  unfold nrN shN
  generalize hc : cmpI (2 * shR f z q) (ufF f q) = c
  unfold cmpI at hc
  split at hc
  · subst hc
    rw [show decide ((-1 : Int) < 0) = true from rfl, Bool.true_or, if_pos rfl]
    omega
  · split at hc
    · subst hc
      split
      · omega
      · rw [Nat.add_mul, Nat.one_mul]; omega
    · subst hc
      rw [show decide ((1 : Int) < 0) = false from rfl, show decide ((1 : Int) = 0) = false from rfl, Bool.false_or, Bool.false_and, if_neg (by decide), Nat.add_mul, Nat.one_mul]
      omega
/-- Below the number's first digit by k digits. -/
theorem ten_below {f : Fm} {V : Nat} {t : Int} (h : ufF f t ≤ V * ufG t) (k : Nat) : 10 ^ k * ufF f (t - k) ≤ V * ufG (t - k) := by
  have hs := uf_shift f (t - k) k
  rw [show t - (k : Int) + (k : Int) = t by omega] at hs
  have hGt := ufG_pos t
  have h1 := Nat.mul_le_mul_right (ufG (t - k)) h
  rw [hs] at h1
  refine Nat.le_of_mul_le_mul_right (c := ufG t) ?_ hGt
  calc 10 ^ k * ufF f (t - k) * ufG t ≤ V * ufG t * ufG (t - k) := h1
    _ = _ := by ac_rfl
theorem ten_above {f : Fm} {V : Nat} {t : Int} (h : V * ufG (t + 1) < ufF f (t + 1)) (k : Nat) : V * ufG (t - k) < 10 ^ (k + 1) * ufF f (t - k) := by
  have hs := uf_shift f (t - k) (k + 1)
  rw [show t - (k : Int) + ((k + 1 : Nat) : Int) = t + 1 by omega] at hs
  have hG := ufG_pos (t - k)
  have h1 := Nat.mul_lt_mul_of_pos_right h hG
  rw [hs] at h1
  refine Nat.lt_of_mul_lt_mul_right (a := ufG (t + 1)) ?_
  calc V * ufG (t - k) * ufG (t + 1) = V * ufG (t + 1) * ufG (t - k) := by ac_rfl
    _ < _ := h1
theorem nr_size {f : Fm} {z : Nat} {t : Int} (h0 : z ≠ 0) (h : ufF f t ≤ 2 * vP f z * ufG t ∧ 2 * vP f z * ufG (t + 1) < ufF f (t + 1)) (k : Nat) : 10 ^ k ≤ nrN f z (t - k) ∧ nrN f z (t - k) ≤ 10 ^ (k + 1) := by
  have h1 := ten_below h.1 k
  have h2 := ten_above h.2 k
  have hF := ufF_pos f (t - k)
  obtain ⟨_, _, n3, n4⟩ := nr_near f z (t - k) h0
  have g1 : 10 ^ k ≤ shL f z (t - k) := (Nat.le_div_iff_mul_le hF).2 h1
  have g2 : shL f z (t - k) < 10 ^ (k + 1) := (Nat.div_lt_iff_lt_mul hF).2 h2
  omega
/-- With so many digits that 10^k is above 2^P what is nearest is read back. -/
theorem nr_pat {f : Fm} (hf : f.ok) {z : Nat} (h0 : z ≠ 0) (hz : z < f.inf) {t : Int} (ht : ufF f t ≤ 2 * vP f z * ufG t) {k : Nat} (hk : 2 ^ f.P < 10 ^ k) : IsPat f (tn (nrN f z (t - k)) (t - k)) (td (t - k)) z := by
  have hP2 := (Fm.ok.facts hf).1
  obtain ⟨g1, g2⟩ := vP_gap f hP2 h0
  obtain ⟨n1, n2, _, _⟩ := nr_near f z (t - k) h0
  have hb := ten_below ht k
  generalize hq : t - (k : Int) = q at *
  have hF := ufF_pos f q
  have hG := ufG_pos q
  have small : ∀ g, vP f z ≤ g * 2 ^ f.P → ufF f q < 2 * (g * ufG q) := fun g hg => by
    refine Nat.lt_of_mul_lt_mul_left (a := 2 ^ f.P) ?_
    have h3 := Nat.mul_le_mul_right (ufG q) hg
    have h5 : 2 * vP f z * ufG q = 2 * (vP f z * ufG q) := Nat.mul_assoc _ _ _
    rw [h5] at hb
    have h6 := Nat.mul_lt_mul_of_pos_right hk hF
    calc 2 ^ f.P * ufF f q < 10 ^ k * ufF f q := h6
      _ ≤ 2 * (vP f z * ufG q) := hb
      _ ≤ 2 * (g * 2 ^ f.P * ufG q) := Nat.mul_le_mul_left _ h3
      _ = 2 ^ f.P * (2 * (g * ufG q)) := by ac_rfl
  have s1 := small _ g1
  have s2 := small _ g2
  have d1 : md f (z - 1) * ufG q + (vP f z - vP f (z - 1)) * ufG q = 2 * vP f z * ufG q := by
    rw [← Nat.add_mul]; congr 1
    obtain ⟨s, rfl⟩ : ∃ s, z = s + 1 := ⟨z - 1, by omega⟩
    have := vP_lt f s
    rw [Nat.add_sub_cancel]; unfold md; omega
  have d2 : md f z * ufG q = 2 * vP f z * ufG q + (vP f (z + 1) - vP f z) * ufG q := by
    rw [← Nat.add_mul]; congr 1
    have := vP_lt f z
    unfold md; omega
  rw [cell_pat h0 hz]
  exact ⟨.inl (by omega), .inl (by omega)⟩
/-- A number's text with an exponent. -/
theorem sci_form {f : Fm} {S D : List UInt8} {y : Int} {v : Nat} {k : Int} (h : ParOk f (bs (S ++ (ptd D ++ [101] ++ Lib.itoa y))) v k) (hS : sgOk S) (hD : D.all isDec = true) (hD0 : 1 ≤ D.length) (hD1 : D.length ≤ 1000) (y1 : -2000 ≤ y) (y2 : y ≤ 2000) :
    k = 0 ∧ ∃ p, IsPat f (tn (dcV D) (y - D.length + 1)) (td (y - D.length + 1)) p ∧ p ≤ f.inf ∧ v = sgn f (decide (S = [45])) p := by
  have hSl : S.length ≤ 1 := by rcases hS with e | e | e <;> rw [e] <;> simp
  have hne : D ≠ [] := fun e => by rw [e] at hD0; simp at hD0
  obtain ⟨Sx, X, e1, e2, e3, e4, e5⟩ := itoa_form y
  have e5 := e5 (by unfold vast; omega)
  have hIl := itoa_len y (by omega) (by omega)
  rw [e1] at h hIl
  unfold ptd at h
  split at h
  · rename_i c2
    obtain ⟨h1, p, h2, h3, h4⟩ := par_form (pt := none) (ex := some (101, Sx, X)) (W := D) h (by simp [ptT, exT]) hS hD rfl (by simp [ptD, hne]) ⟨.inl rfl, e2, e3, e4⟩ (by simp at hIl ⊢; omega)
    refine ⟨h1, p, ?_, h3, h4⟩
    have e : exV (some (101, Sx, X)) - ((ptD none).length : Int) = y - D.length + 1 := by rw [e5]; show y - (0 : Int) = _; omega
    rw [e, show D ++ ptD none = D by simp [ptD]] at h2
    exact h2
  · rename_i c2
    have hd := List.take_append_drop 1 D
    rw [← hd] at hD
    obtain ⟨a1, a2⟩ := all_left hD
    obtain ⟨h1, p, h2, h3, h4⟩ := par_form (pt := some (D.drop 1)) (ex := some (101, Sx, X)) (W := D.take 1) h (by simp [ptT, exT]) hS a1 a2 (by show D.take 1 ++ D.drop 1 ≠ []; rw [hd]; exact hne) ⟨.inl rfl, e2, e3, e4⟩ (by simp at hIl ⊢; omega)
    refine ⟨h1, p, ?_, h3, h4⟩
    have e : exV (some (101, Sx, X)) - ((ptD (some (D.drop 1))).length : Int) = y - D.length + 1 := by rw [e5]; show _ - ((D.drop 1).length : Int) = _; rw [List.length_drop]; omega
    rw [e, show D.take 1 ++ ptD (some (D.drop 1)) = D from hd] at h2
    exact h2
/-- The digits and the exponent that Digits lays out. -/
def dgD (N n : Nat) : List UInt8 := if 10 ^ n ≤ N then (Lib.decDigits N).take n else Lib.decDigits N
def dgX (N n : Nat) (t : Int) : Int := if 10 ^ n ≤ N then t + 1 else t
theorem digs_len {N n : Nat} (h1 : 10 ^ n ≤ N) (h2 : N < 10 ^ (n + 1)) : (Lib.decDigits N).length = n + 1 := by
  have hN : N ≠ 0 := by have := Nat.pow_pos (n := n) (show 0 < 10 by omega); omega
  have hle := decDigits_len h2 (by omega)
  obtain ⟨d1, d2, _, _⟩ := dcV_digits N
  have := dcV_lt d2
  rw [d1] at this
  have h3 : 10 ^ n < 10 ^ (Lib.decDigits N).length := Nat.lt_of_le_of_lt h1 this
  have := (Nat.pow_lt_pow_iff_right (show 1 < 10 by omega)).1 h3
  omega
theorem ten_digs (n : Nat) : Lib.decDigits (10 ^ n) = 49 :: List.replicate n 48 := by
  induction n with
  | zero => rw [Nat.pow_zero, Lib.decDigits_one (by decide)]; rfl
  | succ n ih =>
    have h : ¬ 10 ^ (n + 1) < 10 := by rw [Nat.pow_succ]; have := Nat.pow_pos (n := n) (show 0 < 10 by omega); omega
    rw [Lib.decDigits, dif_neg h, Nat.pow_succ, Nat.mul_div_cancel _ (by omega), ih, Nat.mul_mod_left, List.cons_append, List.replicate_succ']
    rfl
theorem dg_facts {N n : Nat} (hn : 1 ≤ n) (h1 : 10 ^ (n - 1) ≤ N) (h2 : N ≤ 10 ^ n) (t : Int) : (dgD N n).length = n ∧ (dgD N n).all isDec = true ∧ (∃ c l, dgD N n = c :: l ∧ c ≠ 48) ∧
    ∃ k : Nat, t - n + 1 + (k : Int) = dgX N n t - n + 1 ∧ N = dcV (dgD N n) * 10 ^ k := by
  have hd := digs_dec N
  unfold dgD dgX
  by_cases h : 10 ^ n ≤ N
  · have e : N = 10 ^ n := by omega
    rw [if_pos h, if_pos h]
    subst e
    obtain ⟨m, rfl⟩ : ∃ m, n = m + 1 := ⟨n - 1, by omega⟩
    have e2 : (Lib.decDigits (10 ^ (m + 1))).take (m + 1) = 49 :: List.replicate m 48 := by
      rw [ten_digs, List.take_succ_cons, List.take_replicate]
      congr 2; omega
    rw [e2]
    refine ⟨by simp, by rw [List.all_cons, zeros_dec]; decide, ⟨49, _, rfl, by decide⟩, 1, by omega, ?_⟩
    have : (49 : UInt8) :: List.replicate m 48 = [49] ++ List.replicate m 48 := rfl
    rw [this, dcV_zeros, Nat.pow_succ]
    have : dcV [49] = 1 := by decide
    rw [this]; omega
  · rw [if_neg h, if_neg h]
    have hl := digs_len (N := N) (n := n - 1) h1 (by rw [show n - 1 + 1 = n by omega]; omega)
    have hN : N ≠ 0 := by have := Nat.pow_pos (n := n - 1) (show 0 < 10 by omega); omega
    exact ⟨by omega, hd, (dcV_digits N).2.2.1 hN, 0, by omega, by rw [(dcV_digits N).1]; omega⟩
/-- What Digits answers of a finite pattern (n digits). -/
def DgOk (f : Fm) (b n : Nat) (T : List UInt8) : Prop :=
  (b % 2 ^ f.S = 0 → T = (if 2 ^ f.S ≤ b then [45] else []) ++ (ptd (List.replicate n 48) ++ [101] ++ Lib.itoa 0)) ∧
  (b % 2 ^ f.S ≠ 0 → ∃ t : Int, (ufF f t ≤ 2 * vP f (b % 2 ^ f.S) * ufG t ∧ 2 * vP f (b % 2 ^ f.S) * ufG (t + 1) < ufF f (t + 1)) ∧ -430 ≤ t ∧ t ≤ 430 ∧
    T = (if 2 ^ f.S ≤ b then [45] else []) ++ (ptd (dgD (nrN f (b % 2 ^ f.S) (t - n + 1)) n) ++ [101] ++ Lib.itoa (dgX (nrN f (b % 2 ^ f.S) (t - n + 1)) n t)))
end Go.Proofs.YtfacjlffkcbagaaGreatDoor
