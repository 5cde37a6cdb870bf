/- Plain facts: a number of a format between powers of ten; which decimals fall into a pattern's cell. No program in sight. · Plain facts: the exponent of ten of a number; the shortest decimal in a cell is found with 17 digits. No program in sight. -/
import Derived.Test.YtmfjimmodaofdaaGreatDoorPp
import Derived.Test.YtmfjimmodaofdaaGreatDoorTo
import Derived.Test.YtmfjimmodaofdaaGreatDoorEg
namespace Go.Proofs.YtmfjimmodaofdaaGreatDoor

/-- Units of 2^(L-1) and of 10^q: d * 10^q is d * ufF / ufG of them. -/
def ufF (f : Fm) (q : Int) : Nat := 10 ^ q.toNat * 2 ^ (1 - f.L).toNat
def ufG (q : Int) : Nat := 10 ^ (-q).toNat
theorem ufF_pos (f : Fm) (q : Int) : 0 < ufF f q := Nat.mul_pos (Nat.pow_pos (by omega)) (Nat.two_pow_pos _)
theorem ufG_pos (q : Int) : 0 < ufG q := Nat.pow_pos (by omega)
/-- A number's fraction in units of 10^q, up to a factor. -/
theorem in_units {f : Fm} {m N u : Nat} {x q : Int} (hx : x = f.L - 1 + (u : Int)) (hL : f.L ≤ 0) (hN : m * 2 ^ u = N) :
    inA m x q * 2 ^ (1 - f.L).toNat = N * ufG q * 2 ^ (-x).toNat ∧ inB x q * 2 ^ (1 - f.L).toNat = ufF f q * 2 ^ (-x).toNat := by
  have e : 2 ^ x.toNat * 2 ^ (1 - f.L).toNat = 2 ^ u * 2 ^ (-x).toNat := by
    rw [← Nat.pow_add, ← Nat.pow_add]; congr 1; omega
  constructor
  · have : inA m x q * 2 ^ (1 - f.L).toNat = m * (2 ^ x.toNat * 2 ^ (1 - f.L).toNat) * ufG q := by unfold inA ufG; ac_rfl
    rw [this, e, ← hN]; ac_rfl
  · unfold inB ufF; ac_rfl
theorem cmp_scale {a b c d k l : Nat} (hk : 0 < k) (hl : 0 < l) (h1 : a * k = c * l) (h2 : b * k = d * l) : cmpI b a = cmpI d c := by
  have e1 : (b < a) ↔ (d < c) := by
    rw [← Nat.mul_lt_mul_right hk, h1, h2, Nat.mul_lt_mul_right hl]
  have e2 : (b = a) ↔ (d = c) := by
    constructor
    · intro e; exact Nat.eq_of_mul_eq_mul_right hl (by rw [← h1, ← h2, e])
    · intro e; exact Nat.eq_of_mul_eq_mul_right hk (by rw [h1, h2, e])
  unfold cmpI
  simp only [e1, e2]
theorem div_scale {a b c d k l : Nat} (hk : 0 < k) (hl : 0 < l) (hb : 0 < b) (h1 : a * k = c * l) (h2 : b * k = d * l) : a / b = c / d ∧ cmpI (2 * (a % b)) b = cmpI (2 * (c % d)) d ∧ (a % b = 0 ↔ c % d = 0) := by
  have hd : 0 < d := Nat.pos_of_ne_zero fun e => by rw [e, Nat.zero_mul] at h2; have := Nat.mul_pos hb hk; omega
  have e1 : a / b = c / d := by
    rw [← Nat.mul_div_mul_right a b hk, h1, h2, Nat.mul_div_mul_right _ _ hl]
  have e2 : (a % b) * k = (c % d) * l := by
    rw [← Nat.mul_mod_mul_right, ← Nat.mul_mod_mul_right, h1, h2]
  refine ⟨e1, cmp_scale hk hl h2 (by rw [Nat.mul_assoc, e2, Nat.mul_assoc]), ?_⟩
  constructor
  · intro e; rw [e, Nat.zero_mul] at e2; exact (Nat.mul_eq_zero.1 e2.symm).resolve_right (by omega)
  · intro e; rw [e, Nat.zero_mul] at e2; exact (Nat.mul_eq_zero.1 e2).resolve_right (by omega)
/-- d * 10^q rounds to z just where it lies in z's cell. -/
def loOk (f : Fm) (z d : Nat) (q : Int) : Prop := md f (z - 1) * ufG q < d * ufF f q ∨ (md f (z - 1) * ufG q = d * ufF f q ∧ z % 2 = 0)
def hiOk (f : Fm) (z d : Nat) (q : Int) : Prop := d * ufF f q < md f z * ufG q ∨ (d * ufF f q = md f z * ufG q ∧ z % 2 = 0)
theorem md_step (f : Fm) (s : Nat) : md f s < md f (s + 1) := by
  have h1 := vP_lt f s
  have h2 := vP_lt f (s + 1)
  unfold md; omega
theorem md_lt (f : Fm) {s t : Nat} (h : s < t) : md f s < md f t := by
  induction t with
  | zero => omega
  | succ t ih =>
    by_cases e : s = t
    · subst e; exact md_step f s
    · exact Nat.lt_trans (ih (by omega)) (md_step f t)
theorem cell_pat {f : Fm} {z d : Nat} {q : Int} (h0 : z ≠ 0) (hz : z < f.inf) : IsPat f (tn d q) (td q) z ↔ loOk f z d q ∧ hiOk f z d q := by
  have e : tn d q * 2 ^ (1 - f.L).toNat = d * ufF f q := by unfold tn ufF; ac_rfl
  have hG : td q = ufG q := rfl
  have hGp := ufG_pos q
  unfold IsPat loOk hiOk
  rw [e, hG]
  generalize d * ufF f q = V at *
  have hlt : ∀ s t, s < t → md f s * ufG q < md f t * ufG q := fun s t h => Nat.mul_lt_mul_of_pos_right (md_lt f h) hGp
  constructor
  · intro h
    have h1 := (h (z - 1)).1 (by omega)
    have h2 := fun hh => (h z).2 hh
    constructor
    · rcases h1.2 with h3 | ⟨h3, h4⟩
      · exact .inl h3
      · exact .inr ⟨h3, by omega⟩
    · have h5 : ¬ (md f z * ufG q < V ∨ (md f z * ufG q = V ∧ z % 2 = 1)) := fun hh => by
        have := h2 ⟨hz, hh⟩
        omega
      by_cases h6 : V < md f z * ufG q
      · exact .inl h6
      · have h7 : V = md f z * ufG q := by
          apply Nat.le_antisymm _ (Nat.le_of_not_lt h6)
          exact Nat.le_of_not_lt fun hh => h5 (.inl hh)
        exact .inr ⟨h7, by
          have : ¬ z % 2 = 1 := fun hh => h5 (.inr ⟨h7.symm, hh⟩)
          omega⟩
  · rintro ⟨hl, hh⟩ s
    constructor
    · intro hs
      refine ⟨by omega, ?_⟩
      by_cases e : s = z - 1
      · subst e
        rcases hl with h3 | ⟨h3, h4⟩
        · exact .inl h3
        · exact .inr ⟨h3, by omega⟩
      · have := hlt s (z - 1) (by omega)
        left
        rcases hl with h3 | ⟨h3, _⟩ <;> omega
    · rintro ⟨_, hor⟩
      refine Nat.lt_of_not_le fun hsz => ?_
      have hge : md f z * ufG q ≤ md f s * ufG q := by
        by_cases e : s = z
        · rw [e]; exact Nat.le_refl _
        · exact Nat.le_of_lt (hlt z s (by omega))
      rcases hor with h3 | ⟨h3, h4⟩
      · rcases hh with h5 | ⟨h5, _⟩ <;> omega
      · rcases hh with h5 | ⟨h5, h6⟩
        · omega
        · by_cases e : s = z
          · subst e; omega
          · have := hlt z s (by omega)
            omega
end Go.Proofs.YtmfjimmodaofdaaGreatDoor

namespace Go.Proofs.YtmfjimmodaofdaaGreatDoor

/-- 10^t is at most m * 2^x, 10^(t+1) is above it. -/
def tenIs (m : Nat) (x t : Int) : Prop := inB x t ≤ inA m x t ∧ inA m x (t + 1) < inB x (t + 1)
theorem ten_lo {m : Nat} {x t : Int} (hm : m ≠ 0) (hx : -1300 ≤ x) (ht : t ≤ -400) : inB x t ≤ inA m x t := by
  have h1 := ten_big (-t).toNat (by omega)
  have h2 : 2 ^ (-x).toNat ≤ 2 ^ xT := Nat.pow_le_pow_right (by omega) (by rw [xs_eq.2.2]; omega)
  have h3 : 1 ≤ m * 2 ^ x.toNat := Nat.mul_pos (by omega) (Nat.two_pow_pos _)
  unfold inA inB
  rw [show t.toNat = 0 by omega, Nat.pow_zero, Nat.one_mul]
  have h4 := Nat.mul_le_mul_right (10 ^ (-t).toNat) h3
  rw [Nat.one_mul] at h4
  omega
theorem ten_hi {m : Nat} {x t : Int} (hm : blen m ≤ 64) (hx : x ≤ 1200) (ht : 400 ≤ t) : inA m x t < inB x t := by
  have h1 := ten_big t.toNat (by omega)
  have h2 : m * 2 ^ x.toNat < 2 ^ blen m * 2 ^ x.toNat := Nat.mul_lt_mul_of_pos_right (blen_hi m) (Nat.two_pow_pos _)
  rw [← Nat.pow_add] at h2
  have h3 : 2 ^ (blen m + x.toNat) ≤ 2 ^ xT := Nat.pow_le_pow_right (by omega) (by rw [xs_eq.2.2]; omega)
  unfold inA inB
  rw [show (-t).toNat = 0 by omega, Nat.pow_zero, Nat.mul_one]
  have h4 : 10 ^ t.toNat * 1 ≤ 10 ^ t.toNat * 2 ^ (-x).toNat := Nat.mul_le_mul_left _ (Nat.two_pow_pos _)
  omega
theorem uf_shift (f : Fm) (q : Int) (k : Nat) : ufF f (q + k) * ufG q = 10 ^ k * ufF f q * ufG (q + k) := by
  unfold ufF ufG
  have e : 10 ^ (q + k).toNat * 10 ^ (-q).toNat = 10 ^ k * 10 ^ q.toNat * 10 ^ (-(q + k)).toNat := by
    rw [← Nat.pow_add, ← Nat.pow_add, ← Nat.pow_add]; congr 1; omega
  have e1 : 10 ^ (q + k).toNat * 2 ^ (1 - f.L).toNat * 10 ^ (-q).toNat = (10 ^ (q + k).toNat * 10 ^ (-q).toNat) * 2 ^ (1 - f.L).toNat := by ac_rfl
  rw [e1, e]; ac_rfl
theorem vP_gap (f : Fm) (hP : 2 ≤ f.P) {z : Nat} (h0 : z ≠ 0) : vP f z ≤ (vP f z - vP f (z - 1)) * 2 ^ f.P ∧ vP f z ≤ (vP f (z + 1) - vP f z) * 2 ^ f.P := by
  have hp := Nat.two_pow_pos (f.P - 1)
  have eP : 2 ^ f.P = 2 * 2 ^ (f.P - 1) := by rw [← Nat.pow_succ']; congr 1; omega
  have gap : ∀ s, vP f (s + 1) = vP f s + 2 ^ mex f s := fun s => by
    have h1 := md_mnt f s
    have h2 := vP_mnt f s
    unfold md at h1
    rw [Nat.add_mul, Nat.one_mul, Nat.mul_assoc, ← h2] at h1
    omega
  have hm := mnt_lt hP z
  have h2 := vP_mnt f z
  have hup : vP f z ≤ 2 ^ mex f z * 2 ^ f.P := by
    rw [h2, Nat.mul_comm]; exact Nat.mul_le_mul_left _ (Nat.le_of_lt hm)
  refine ⟨?_, by rw [gap z, Nat.add_sub_cancel_left]; exact hup⟩
  obtain ⟨s, rfl⟩ : ∃ s, z = s + 1 := ⟨z - 1, by omega⟩
  rw [Nat.add_sub_cancel]
  have hs := mnt_lt hP s
  have h3 := vP_mnt f s
  rw [gap s, Nat.add_sub_cancel_left, h3]
  have h4 : (mnt f s + 1) * 2 ^ mex f s ≤ 2 ^ f.P * 2 ^ mex f s := Nat.mul_le_mul_right _ hs
  rw [Nat.add_mul, Nat.one_mul] at h4
  rw [Nat.mul_comm (2 ^ mex f s)]
  exact h4
instance (f : Fm) (z d : Nat) (q : Int) : Decidable (loOk f z d q) := by unfold loOk; exact inferInstance
instance (f : Fm) (z d : Nat) (q : Int) : Decidable (hiOk f z d q) := by unfold hiOk; exact inferInstance
/-- The whole part and the rest of z's number in units of 10^q. -/
def shL (f : Fm) (z : Nat) (q : Int) : Nat := 2 * vP f z * ufG q / ufF f q
def shR (f : Fm) (z : Nat) (q : Int) : Nat := 2 * vP f z * ufG q % ufF f q
/-- Is the whole part the nearer of the two (of two that are equally near: is it even)? -/
def shN (f : Fm) (z : Nat) (q : Int) : Bool := decide (cmpI (2 * shR f z q) (ufF f q) < 0) || (decide (cmpI (2 * shR f z q) (ufF f q) = 0) && !(tb (shL f z q) 0))
/-- What is chosen with the last digit at 10^q, if anything is in the cell. -/
def shD (f : Fm) (z : Nat) (q : Int) : Option Nat :=
  if loOk f z (shL f z q) q ∧ hiOk f z (shL f z q + 1) q then some (if shN f z q then shL f z q else shL f z q + 1)
  else if loOk f z (shL f z q) q then some (shL f z q) else if hiOk f z (shL f z q + 1) q then some (shL f z q + 1) else none
/-- The shortest decimal: t the exponent of the first digit, n digits. -/
def ShOk (f : Fm) (z d : Nat) (q : Int) : Prop :=
  ∃ (t : Int) (n : Nat), (ufF f t ≤ 2 * vP f z * ufG t ∧ 2 * vP f z * ufG (t + 1) < ufF f (t + 1)) ∧ 1 ≤ n ∧ n ≤ 17 ∧ q = t - n + 1 ∧ shD f z q = some d ∧ ∀ k : Nat, 1 ≤ k → k < n → shD f z (t - k + 1) = none
theorem sh_frame (f : Fm) (z : Nat) (q : Int) (h0 : z ≠ 0) : hiOk f z (shL f z q) q ∧ loOk f z (shL f z q + 1) q ∧ shL f z q * ufF f q + shR f z q = 2 * vP f z * ufG q ∧ shR f z q < ufF f q := by
  have hF := ufF_pos f q
  have hG := ufG_pos q
  have h1 := Nat.div_add_mod (2 * vP f z * ufG q) (ufF f q)
  have h2 := Nat.mod_lt (2 * vP f z * ufG q) hF
  have e : shL f z q * ufF f q + shR f z q = 2 * vP f z * ufG q := by unfold shL shR; rw [Nat.mul_comm]; exact h1
  have hr : shR f z q < ufF f q := h2
  have g1 : 2 * vP f z < md f z := by have := vP_lt f z; unfold md; omega
  have g2 : md f (z - 1) < 2 * vP f z := by
    obtain ⟨s, rfl⟩ : ∃ s, z = s + 1 := ⟨z - 1, by omega⟩
    have := vP_lt f s
    rw [Nat.add_sub_cancel]; unfold md; omega
  have k1 := Nat.mul_lt_mul_of_pos_right g1 hG
  have k2 := Nat.mul_lt_mul_of_pos_right g2 hG
  refine ⟨.inl (by omega), .inl ?_, e, hr⟩
  rw [Nat.add_mul, Nat.one_mul]; omega
/-- With 17 digits something is in the cell. -/
theorem sh_ends {f : Fm} (hf : f.ok) {z : Nat} (h0 : z ≠ 0) {t : Int} (ht : ufF f t ≤ 2 * vP f z * ufG t) : shD f z (t - 16) ≠ none := by
  have hP2 := (Fm.ok.facts hf).1
  have hPle : f.P ≤ 53 := by rcases hf with h | h <;> subst h <;> decide
  obtain ⟨g1, g2⟩ := vP_gap f hP2 h0
  obtain ⟨_, _, e, hr⟩ := sh_frame f z (t - 16) h0
  have hG := ufG_pos (t - 16)
  have hGt := ufG_pos t
  have hs := uf_shift f (t - 16) 16
  rw [show t - 16 + ((16 : Nat) : Int) = t by omega] at hs
  have hF : 10 ^ 16 * ufF f (t - 16) ≤ 2 * vP f z * ufG (t - 16) := by
    have h1 := Nat.mul_le_mul_right (ufG (t - 16)) ht
    rw [hs] at h1
    refine Nat.le_of_mul_le_mul_right (c := ufG t) ?_ hGt
    have e1 : 2 * vP f z * ufG t * ufG (t - 16) = 2 * vP f z * ufG (t - 16) * ufG t := by ac_rfl
    rw [← e1]; exact h1
  have hp : 2 ^ f.P ≤ 2 ^ 53 := Nat.pow_le_pow_right (by omega) hPle
  have small : ∀ g, vP f z ≤ g * 2 ^ f.P → ufF f (t - 16) < 2 * (g * ufG (t - 16)) := fun g hg => by
    have h1 : g * 2 ^ f.P ≤ g * 2 ^ 53 := Nat.mul_le_mul_left _ hp
    have h2 : vP f z ≤ g * 2 ^ 53 := Nat.le_trans hg h1
    have h3 := Nat.mul_le_mul_right (ufG (t - 16)) h2
    have h4 : g * 2 ^ 53 * ufG (t - 16) = g * ufG (t - 16) * 2 ^ 53 := by ac_rfl
    rw [h4] at h3
    have h5 : 2 * vP f z * ufG (t - 16) = 2 * (vP f z * ufG (t - 16)) := Nat.mul_assoc _ _ _
    rw [h5] at hF
    have hFp := ufF_pos f (t - 16)
    rw [show (10 : Nat) ^ 16 = 10000000000000000 by decide] at hF
    rw [show (2 : Nat) ^ 53 = 9007199254740992 by decide] at h3
    omega
  have s1 := small _ g1
  have s2 := small _ g2
  intro hn
  have hlo : ¬ loOk f z (shL f z (t - 16)) (t - 16) ∧ ¬ hiOk f z (shL f z (t - 16) + 1) (t - 16) := by
    unfold shD at hn
    split at hn
    · exact absurd hn (by simp)
    · split at hn
      · exact absurd hn (by simp)
      · split at hn
        · exact absurd hn (by simp)
        · rename_i h1 h2; exact ⟨h1, h2⟩
  have d1 : md f (z - 1) * ufG (t - 16) + (vP f z - vP f (z - 1)) * ufG (t - 16) = 2 * vP f z * ufG (t - 16) := by
    rw [← Nat.add_mul]; congr 1
    obtain ⟨s, rfl⟩ : ∃ s, z = s + 1 := ⟨z - 1, by omega⟩
    have := vP_lt f s
    rw [Nat.add_sub_cancel]; unfold md; omega
  have d2 : md f z * ufG (t - 16) = 2 * vP f z * ufG (t - 16) + (vP f (z + 1) - vP f z) * ufG (t - 16) := by
    rw [← Nat.add_mul]; congr 1
    have := vP_lt f z
    unfold md; omega
  by_cases hh : 2 * shR f z (t - 16) ≤ ufF f (t - 16)
  · exact hlo.1 (.inl (by omega))
  · refine hlo.2 (.inl ?_)
    rw [Nat.add_mul, Nat.one_mul]; omega
end Go.Proofs.YtmfjimmodaofdaaGreatDoor
