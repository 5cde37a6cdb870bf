/- Plain law: what hxPat is, told by the midpoints between neighbours. No program in sight. · Plain law: a quotient with a sticky bit rounds as the fraction does. No program in sight. · Plain facts: decimal digits. No program in sight. · Plain law: Nearest's and Quotient's patterns are those to which the fraction rounds; numbers beyond 2^1025 and below 2^-1075. No program in sight. -/
import Derived.Test.YtibjogbalmbeeaaGreatDoorU06
import Derived.Lib.ItoaNum

namespace Go.Proofs.YtibjogbalmbeeaaGreatDoor

theorem rne_cases (a n : Nat) : ∃ q r, a = 2 ^ n * q + r ∧ r < 2 ^ n ∧ rne a n = q + (if 2 ^ n < 2 * r ∨ (2 * r = 2 ^ n ∧ q % 2 = 1) then 1 else 0) := by
  refine ⟨a / 2 ^ n, a % 2 ^ n, (Nat.div_add_mod a _).symm, Nat.mod_lt _ (Nat.two_pow_pos n), ?_⟩
  have htb : tb (a / 2 ^ n) 0 = decide (a / 2 ^ n % 2 = 1) := by unfold tb; rw [Nat.testBit_zero]
  unfold rne
  congr 1
  rw [htb]
  have key : moreN (decide (a / 2 ^ n % 2 = 1)) (halfOf a n) = decide (2 ^ n < 2 * (a % 2 ^ n) ∨ (2 * (a % 2 ^ n) = 2 ^ n ∧ a / 2 ^ n % 2 = 1)) := by
    by_cases h0 : n = 0
    · subst h0
      unfold halfOf moreN
      rw [if_neg (by simp)]
      simp [Nat.mod_one]
    · obtain ⟨m, rfl⟩ : ∃ m, n = m + 1 := ⟨n - 1, by omega⟩
      have hp := Nat.two_pow_pos m
      have e1 : a % 2 ^ (m + 1) = a % 2 ^ m + 2 ^ m * (a / 2 ^ m % 2) := by rw [Nat.pow_succ, Nat.mod_mul]
      have htb2 : tb a (m + 1 - 1) = decide (a / 2 ^ m % 2 = 1) := by
        unfold tb; rw [Nat.add_sub_cancel, Nat.testBit_eq_decide_div_mod_eq]
      have hlt : a % 2 ^ m < 2 ^ m := Nat.mod_lt _ hp
      unfold halfOf
      rw [htb2, e1, Nat.pow_succ]
      by_cases hb : a / 2 ^ m % 2 = 1
      · rw [hb, decide_eq_true rfl, Nat.mul_one, Nat.add_sub_cancel]
        by_cases hr : a % 2 ^ m = 0
        · have htz : tz a = m := by
            refine tz_of (m := a / 2 ^ m / 2) ?_
            have h1 := Nat.div_add_mod a (2 ^ m)
            have h2 := Nat.div_add_mod (a / 2 ^ m) 2
            rw [hb] at h2
            rw [h2]; omega
          rw [if_pos ⟨h0, rfl⟩, if_pos htz, hr]
          have c2 : 2 * 2 ^ m = 2 ^ m * 2 := Nat.mul_comm _ _
          unfold moreN
          simp [c2]
        · have htz : ¬ tz a = m := by
            intro h
            have ha : a ≠ 0 := by intro e; subst e; simp at hb
            obtain ⟨c, hc⟩ := tz_spec ha
            rw [h] at hc
            apply hr
            rw [hc, Nat.mul_mod_right]
          rw [if_pos ⟨h0, rfl⟩, if_neg htz]
          unfold moreN
          rw [Bool.eq_iff_iff]
          simp
          omega
      · have hb0 : a / 2 ^ m % 2 = 0 := by omega
        rw [if_neg (by simp [hb0]), hb0]
        unfold moreN
        rw [Bool.eq_iff_iff]
        simp
        omega
  rw [key]
  simp

/-- A format's patterns, in units of the least number: the number of the size s. -/
def vP (f : Fm) (s : Nat) : Nat := if s < 2 ^ (f.P - 1) then s else (2 ^ (f.P - 1) + s % 2 ^ (f.P - 1)) * 2 ^ (s / 2 ^ (f.P - 1) - 1)
/-- Twice the midpoint above the size s. -/
def md (f : Fm) (s : Nat) : Nat := vP f s + vP f (s + 1)
theorem vP_enc (f : Fm) (u q : Nat) (h : u = 0 ∨ 2 ^ (f.P - 1) ≤ q) (hq : q ≤ 2 * 2 ^ (f.P - 1)) : vP f (u * 2 ^ (f.P - 1) + q) = q * 2 ^ u := by
  have hH := Nat.two_pow_pos (f.P - 1)
  unfold vP
  generalize 2 ^ (f.P - 1) = H at *
  by_cases h1 : u * H + q < H
  · have hu : u = 0 := by
      rcases h with h | h
      · exact h
      · omega
    subst hu
    rw [if_pos h1]; simp
  · rw [if_neg h1]
    have hqH : H ≤ q := by
      rcases h with h | h
      · subst h; omega
      · exact h
    by_cases h2 : q = 2 * H
    · have e : u * H + q = (u + 2) * H := by rw [h2, Nat.add_mul]
      rw [e, Nat.mul_mod_left, Nat.mul_div_cancel _ hH, h2, show u + 2 - 1 = u + 1 by omega, Nat.pow_succ, Nat.add_zero]
      ac_rfl
    · have e : u * H + q = (q - H) + H * (u + 1) := by rw [Nat.mul_add, Nat.mul_comm u]; omega
      rw [e, Nat.add_mul_mod_self_left, Nat.add_mul_div_left _ _ hH, Nat.mod_eq_of_lt (by omega), Nat.div_eq_of_lt (by omega), show 0 + (u + 1) - 1 = u by omega, show H + (q - H) = q by omega]
theorem vP_lt (f : Fm) (s : Nat) : vP f s < vP f (s + 1) := by
  have hH := Nat.two_pow_pos (f.P - 1)
  obtain ⟨u, q, hs, h1, h2⟩ : ∃ u q, s = u * 2 ^ (f.P - 1) + q ∧ (u = 0 ∨ 2 ^ (f.P - 1) ≤ q) ∧ q + 1 ≤ 2 * 2 ^ (f.P - 1) := by
    by_cases h : s < 2 ^ (f.P - 1)
    · exact ⟨0, s, by omega, .inl rfl, by omega⟩
    · have hm := Nat.mod_lt s hH
      have hd := Nat.div_add_mod s (2 ^ (f.P - 1))
      have hd1 : 1 ≤ s / 2 ^ (f.P - 1) := (Nat.le_div_iff_mul_le hH).2 (by omega)
      refine ⟨s / 2 ^ (f.P - 1) - 1, 2 ^ (f.P - 1) + s % 2 ^ (f.P - 1), ?_, .inr (by omega), by omega⟩
      generalize s / 2 ^ (f.P - 1) = d at *
      obtain ⟨e, rfl⟩ : ∃ e, d = e + 1 := ⟨d - 1, by omega⟩
      rw [Nat.mul_add, Nat.mul_comm _ e] at hd
      rw [Nat.add_sub_cancel]
      omega
  rw [hs, Nat.add_assoc, vP_enc f u q h1 (by omega), vP_enc f u (q + 1) (h1.imp id (by omega)) h2, Nat.add_mul]
  have := Nat.two_pow_pos u
  omega
theorem vP_mono (f : Fm) {s t : Nat} (h : s ≤ t) : vP f s ≤ vP f t := by
  induction h with
  | refl => exact Nat.le_refl _
  | step _ ih => exact Nat.le_trans ih (Nat.le_of_lt (vP_lt f _))
theorem md_pos (f : Fm) (s : Nat) : 1 ≤ md f s := by have := vP_lt f s; unfold md; omega

/-- a * 2^x in units of 2^B. -/
def nv (B : Int) (a : Nat) (x : Int) : Nat := a * 2 ^ (x - B).toNat

/-- What unitsOf is made of. -/
theorem units_parts (f : Fm) (hP : 2 ≤ f.P) (a : Nat) (x B : Int) (ha : a ≠ 0) (hB : B ≤ x) (hB2 : B ≤ f.L - 1) :
    ∃ u q d, (unitOf f a x - f.L).toNat * 2 ^ (f.P - 1) + unitsOf f a x = u * 2 ^ (f.P - 1) + q + d ∧ (u = 0 ∨ 2 ^ (f.P - 1) ≤ q) ∧ q + 1 ≤ 2 * 2 ^ (f.P - 1) ∧
      q * (2 * 2 ^ (u + (f.L - 1 - B).toNat)) ≤ nv B a x ∧ nv B a x < (q + 1) * (2 * 2 ^ (u + (f.L - 1 - B).toNat)) ∧
      ((d = 1 ∧ ((2 * q + 1) * 2 ^ (u + (f.L - 1 - B).toNat) < nv B a x ∨ ((2 * q + 1) * 2 ^ (u + (f.L - 1 - B).toNat) = nv B a x ∧ q % 2 = 1))) ∨
       (d = 0 ∧ ¬ ((2 * q + 1) * 2 ^ (u + (f.L - 1 - B).toNat) < nv B a x ∨ ((2 * q + 1) * 2 ^ (u + (f.L - 1 - B).toNat) = nv B a x ∧ q % 2 = 1)))) := by
  have hblo := blen_lo ha
  have hbhi := blen_hi a
  have hb1 := blen_pos ha
  have hu1 : x + blen a - f.P ≤ unitOf f a x := by unfold unitOf; omega
  have hu2 : f.L ≤ unitOf f a x := by unfold unitOf; omega
  have hu3 : unitOf f a x = f.L ∨ unitOf f a x = x + blen a - f.P := by unfold unitOf; omega
  have e2 : 2 * 2 ^ (f.P - 1) = 2 ^ f.P := by rw [← Nat.pow_succ']; congr 1; omega
  have hx0 : 0 ≤ x - B := by omega
  have hm0 : 0 ≤ f.L - 1 - B := by omega
  unfold unitsOf nv
  rw [e2]
  generalize hU : unitOf f a x = U at *
  obtain ⟨k, hk⟩ : ∃ k : Nat, (x - B).toNat = k := ⟨_, rfl⟩
  obtain ⟨m, hm⟩ : ∃ m : Nat, (f.L - 1 - B).toNat = m := ⟨_, rfl⟩
  obtain ⟨u, hu⟩ : ∃ u : Nat, (U - f.L).toNat = u := ⟨_, rfl⟩
  rw [hk, hm, hu]
  have hum : 2 * 2 ^ (u + m) = 2 ^ (u + m + 1) := by rw [Nat.pow_succ']
  by_cases hx : x ≤ U
  · rw [if_pos hx]
    obtain ⟨n, hn⟩ : ∃ n : Nat, (U - x).toNat = n := ⟨_, rfl⟩
    rw [hn]
    have hnk : n + k = u + m + 1 := by omega
    obtain ⟨q, r, hqr, hr, hrne⟩ := rne_cases a n
    have hqP : q < 2 ^ f.P := by
      have h1 : 2 ^ n * q < 2 ^ n * 2 ^ f.P := by
        rw [← Nat.pow_add]
        have : 2 ^ blen a ≤ 2 ^ (n + f.P) := Nat.pow_le_pow_right (by omega) (by omega)
        omega
      exact Nat.lt_of_mul_lt_mul_left h1
    have hqH : u = 0 ∨ 2 ^ (f.P - 1) ≤ q := by
      by_cases h0 : u = 0
      · exact .inl h0
      · right
        have hn2 : blen a = n + f.P := by omega
        have h1 : 2 ^ n * 2 ^ (f.P - 1) ≤ a := by rw [← Nat.pow_add, show n + (f.P - 1) = blen a - 1 by omega]; exact hblo
        have h2 : 2 ^ n * 2 ^ (f.P - 1) < 2 ^ n * (q + 1) := by rw [Nat.mul_add, Nat.mul_one]; omega
        have := Nat.lt_of_mul_lt_mul_left h2
        omega
    have hE : 2 ^ n * 2 ^ k = 2 * 2 ^ (u + m) := by rw [← Nat.pow_add, hnk, hum]
    have hT : a * 2 ^ k = q * (2 * 2 ^ (u + m)) + r * 2 ^ k := by
      rw [hqr, Nat.add_mul, ← hE]
      congr 1
      ac_rfl
    have hrk : r * 2 ^ k < 2 * 2 ^ (u + m) := by rw [← hE]; exact Nat.mul_lt_mul_of_pos_right hr (Nat.two_pow_pos k)
    have hc1 : 2 ^ n < 2 * r ↔ 2 ^ (u + m) < r * 2 ^ k := by
      have : 2 ^ n < 2 * r ↔ 2 ^ n * 2 ^ k < 2 * r * 2 ^ k := (Nat.mul_lt_mul_right (Nat.two_pow_pos k)).symm
      rw [this, hE, Nat.mul_assoc]; omega
    have hc2 : 2 * r = 2 ^ n ↔ r * 2 ^ k = 2 ^ (u + m) := by
      have : 2 * r = 2 ^ n ↔ 2 * r * 2 ^ k = 2 ^ n * 2 ^ k := ⟨fun h => by rw [h], fun h => Nat.eq_of_mul_eq_mul_right (Nat.two_pow_pos k) h⟩
      rw [this, hE, Nat.mul_assoc]; omega
    have hd2 : q * (2 * 2 ^ (u + m)) + 2 ^ (u + m) = (2 * q + 1) * 2 ^ (u + m) := by rw [Nat.add_mul, Nat.one_mul]; congr 1; ac_rfl
    have hc3 : (2 ^ n < 2 * r ∨ (2 * r = 2 ^ n ∧ q % 2 = 1)) ↔ ((2 * q + 1) * 2 ^ (u + m) < a * 2 ^ k ∨ ((2 * q + 1) * 2 ^ (u + m) = a * 2 ^ k ∧ q % 2 = 1)) := by
      rw [hc1, hc2, hT, ← hd2]; omega
    rw [hrne]
    by_cases hc : 2 ^ n < 2 * r ∨ (2 * r = 2 ^ n ∧ q % 2 = 1)
    · refine ⟨u, q, 1, by rw [if_pos hc]; omega, hqH, by omega, by rw [hT]; omega, by rw [hT, Nat.add_mul]; omega, .inl ⟨rfl, hc3.1 hc⟩⟩
    · refine ⟨u, q, 0, by rw [if_neg hc]; omega, hqH, by omega, by rw [hT]; omega, by rw [hT, Nat.add_mul]; omega, .inr ⟨rfl, fun h => hc (hc3.2 h)⟩⟩
  · rw [if_neg hx]
    obtain ⟨n, hn⟩ : ∃ n : Nat, (x - U).toNat = n := ⟨_, rfl⟩
    rw [hn]
    have hnk : k = n + (u + m + 1) := by omega
    have hT : a * 2 ^ k = a * 2 ^ n * (2 * 2 ^ (u + m)) := by rw [hnk, Nat.pow_add, hum, Nat.mul_assoc]
    have hqP : a * 2 ^ n < 2 ^ f.P := by
      have h1 : a * 2 ^ n < 2 ^ blen a * 2 ^ n := Nat.mul_lt_mul_of_pos_right hbhi (Nat.two_pow_pos n)
      rw [← Nat.pow_add] at h1
      have : 2 ^ (blen a + n) ≤ 2 ^ f.P := Nat.pow_le_pow_right (by omega) (by omega)
      omega
    have hqH : u = 0 ∨ 2 ^ (f.P - 1) ≤ a * 2 ^ n := by
      by_cases h0 : u = 0
      · exact .inl h0
      · right
        have h1 : 2 ^ (blen a - 1) * 2 ^ n ≤ a * 2 ^ n := Nat.mul_le_mul_right _ hblo
        rw [← Nat.pow_add, show blen a - 1 + n = f.P - 1 by omega] at h1
        exact h1
    have hp := Nat.two_pow_pos (u + m)
    rw [hT]
    generalize a * 2 ^ n = q at *
    have hd2 : q * (2 * 2 ^ (u + m)) + 2 ^ (u + m) = (2 * q + 1) * 2 ^ (u + m) := by rw [Nat.add_mul, Nat.one_mul]; congr 1; ac_rfl
    refine ⟨u, q, 0, rfl, hqH, by omega, Nat.le_refl _, by rw [Nat.add_mul]; omega, .inr ⟨rfl, by rw [← hd2]; omega⟩⟩

/-- The rounded number, without a limit above, lies above s exactly if the number lies above the midpoint behind s, or at it where s is odd. -/
theorem units_char (f : Fm) (hP : 2 ≤ f.P) (a : Nat) (x B : Int) (ha : a ≠ 0) (hB : B ≤ x) (hB2 : B ≤ f.L - 1) (s : Nat) :
    s + 1 ≤ (unitOf f a x - f.L).toNat * 2 ^ (f.P - 1) + unitsOf f a x ↔ (nv B (md f s) (f.L - 1) < nv B a x ∨ (nv B (md f s) (f.L - 1) = nv B a x ∧ s % 2 = 1)) := by
  obtain ⟨u, q, d, hR, h1, h2, h3, h4, h5⟩ := units_parts f hP a x B ha hB hB2
  rw [hR]
  have hv0 := vP_enc f u q h1 (by omega)
  have hv1 := vP_enc f u (q + 1) (h1.imp id (by omega)) h2
  rw [← Nat.add_assoc] at hv1
  have hpar : (u * 2 ^ (f.P - 1) + q) % 2 = q % 2 := by
    obtain ⟨c, hc⟩ : ∃ c, 2 ^ (f.P - 1) = 2 * c := ⟨2 ^ (f.P - 2), by rw [← Nat.pow_succ']; congr 1; omega⟩
    rw [hc, Nat.mul_left_comm]; omega
  rw [show nv B (md f s) (f.L - 1) = md f s * 2 ^ (f.L - 1 - B).toNat from rfl]
  generalize nv B a x = T at *
  generalize (f.L - 1 - B).toNat = m at *
  generalize u * 2 ^ (f.P - 1) + q = s0 at *
  rw [Nat.pow_add] at h3 h4 h5
  have e1 : q * (2 * (2 ^ u * 2 ^ m)) = (vP f s0 + vP f s0) * 2 ^ m := by rw [hv0, ← Nat.two_mul]; ac_rfl
  have e2 : (q + 1) * (2 * (2 ^ u * 2 ^ m)) = (vP f (s0 + 1) + vP f (s0 + 1)) * 2 ^ m := by rw [hv1, ← Nat.two_mul]; ac_rfl
  have e3 : (2 * q + 1) * (2 ^ u * 2 ^ m) = md f s0 * 2 ^ m := by
    unfold md
    rw [hv0, hv1, ← Nat.add_mul, ← Nat.mul_assoc]
    congr 2; omega
  rw [e1] at h3
  rw [e2] at h4
  rw [e3] at h5
  rcases Nat.lt_trichotomy s s0 with h | h | h
  · have h6 : md f s < vP f s0 + vP f s0 := by
      have a1 := vP_lt f s
      have a2 := vP_mono f (show s + 1 ≤ s0 from h)
      unfold md; omega
    have h7 := Nat.mul_lt_mul_of_pos_right h6 (Nat.two_pow_pos m)
    exact ⟨fun _ => .inl (by omega), fun _ => by omega⟩
  · subst h
    rw [hpar]
    rcases h5 with ⟨rfl, h5⟩ | ⟨rfl, h5⟩
    · exact ⟨fun _ => h5, fun _ => Nat.le_refl _⟩
    · exact ⟨fun h => by omega, fun h => absurd h h5⟩
  · have h6 : vP f (s0 + 1) + vP f (s0 + 1) < md f s := by
      have a1 := vP_lt f s
      have a2 := vP_mono f (show s0 + 1 ≤ s from h)
      unfold md; omega
    have h7 := Nat.mul_lt_mul_of_pos_right h6 (Nat.two_pow_pos m)
    have hd : d ≤ 1 := by rcases h5 with ⟨rfl, _⟩ | ⟨rfl, _⟩ <;> omega
    exact ⟨fun _ => by omega, fun h => by omega⟩
theorem vP_inf (f : Fm) (u : Nat) (e : f.inf = u * 2 ^ (f.P - 1) + 2 ^ (f.P - 1)) : vP f f.inf = 2 ^ (f.P - 1 + u) := by
  rw [e, vP_enc f u (2 ^ (f.P - 1)) (.inr (Nat.le_refl _)) (by omega), Nat.pow_add]
theorem Fm.ok.facts {f : Fm} (h : f.ok) : 2 ≤ f.P ∧ -1074 ≤ f.L ∧ f.L < 0 ∧ ∃ K : Nat, vP f f.inf = 2 ^ K ∧ (K : Int) + f.L ≤ 1024 := by
  rcases h with h | h <;> subst h
  · exact ⟨by decide, by decide, by decide, fmS.P - 1 + 254, vP_inf fmS 254 (by decide), by decide⟩
  · exact ⟨by decide, by decide, by decide, fmD.P - 1 + 2046, vP_inf fmD 2046 (by decide), by decide⟩
/-- Beyond every midpoint. -/
theorem md_below {f : Fm} (hf : f.ok) {B x : Int} {a s : Nat} (ha : a ≠ 0) (hB : B ≤ x) (hB2 : B ≤ f.L - 1) (hs : s < f.inf) (hx : 1100 ≤ x + blen a - 1) : nv B (md f s) (f.L - 1) < nv B a x := by
  obtain ⟨h1, h2, h3, K, hK, hKL⟩ := hf.facts
  have a1 := vP_lt f s
  have a2 := vP_mono f (show s + 1 ≤ f.inf from hs)
  have hmd : md f s ≤ 2 ^ (K + 1) := by unfold md; rw [Nat.pow_succ]; omega
  unfold nv
  have b1 := Nat.mul_le_mul_right (2 ^ (f.L - 1 - B).toNat) hmd
  have b2 := Nat.mul_le_mul_right (2 ^ (x - B).toNat) (blen_lo ha)
  have b3 := blen_pos ha
  rw [← Nat.pow_add] at b1 b2
  have b4 : 2 ^ (K + 1 + (f.L - 1 - B).toNat) < 2 ^ (blen a - 1 + (x - B).toNat) := Nat.pow_lt_pow_right (by omega) (by omega)
  omega
theorem rsize_char {f : Fm} (hf : f.ok) (a : Nat) (x B : Int) (ha : a ≠ 0) (hB : B ≤ x) (hB2 : B ≤ f.L - 1) (s : Nat) :
    s + 1 ≤ rsize f a x ↔ (s < f.inf ∧ (nv B (md f s) (f.L - 1) < nv B a x ∨ (nv B (md f s) (f.L - 1) = nv B a x ∧ s % 2 = 1))) := by
  unfold rsize
  by_cases h : 1100 < x + blen a - 1
  · rw [if_pos h]
    exact ⟨fun h1 => ⟨h1, .inl (md_below hf ha hB hB2 h1 (by omega))⟩, fun h1 => h1.1⟩
  · rw [if_neg h]
    have := units_char f hf.facts.1 a x B ha hB hB2 s
    rw [← this, Nat.le_min]
    exact ⟨fun h1 => ⟨by omega, h1.1⟩, fun h1 => ⟨h1.2, by omega⟩⟩
theorem odd_mul {a : Nat} (h : a ≠ 0) : a / 2 ^ tz a * 2 ^ tz a = a := by
  obtain ⟨m, hm⟩ := tz_spec h
  exact Nat.div_mul_cancel ⟨2 * m + 1, hm⟩
/-- hxPat answers above s exactly if the number lies above the midpoint behind s, or at it where s is odd: in units of any 2^B that is small enough. -/
theorem hxPat_char {f : Fm} (hf : f.ok) (a : Nat) (x B : Int) (hB : B ≤ x) (hB2 : B ≤ f.L - 1) (s : Nat) :
    s + 1 ≤ hxPat f a x ↔ (s < f.inf ∧ (nv B (md f s) (f.L - 1) < nv B a x ∨ (nv B (md f s) (f.L - 1) = nv B a x ∧ s % 2 = 1))) := by
  obtain ⟨h1, h2, h3, K, hK, hKL⟩ := hf.facts
  have hmp : 1 * 2 ^ (f.L - 1 - B).toNat ≤ nv B (md f s) (f.L - 1) := Nat.mul_le_mul_right _ (md_pos f s)
  have hpp := Nat.two_pow_pos (f.L - 1 - B).toNat
  unfold hxPat
  by_cases ha : a = 0
  · rw [if_pos (.inl ha)]
    have : nv B a x = 0 := by unfold nv; rw [ha, Nat.zero_mul]
    exact ⟨fun h => by omega, fun h => by omega⟩
  by_cases hlow : blen a + x < -2000
  · rw [if_pos (.inr hlow)]
    have h4 : nv B a x < 2 ^ (blen a + (x - B).toNat) := by
      unfold nv; rw [Nat.pow_add]; exact Nat.mul_lt_mul_of_pos_right (blen_hi a) (Nat.two_pow_pos _)
    have h5 : 2 ^ (blen a + (x - B).toNat) ≤ 2 ^ (f.L - 1 - B).toNat := Nat.pow_le_pow_right (by omega) (by omega)
    exact ⟨fun h => by omega, fun h => by omega⟩
  rw [if_neg (fun h => h.elim ha hlow)]
  by_cases hhigh : 2000 < blen a + x
  · rw [if_pos hhigh]
    have e : near f false 1 2000 = f.inf := by
      have h6 : blen 1 = 1 := by decide
      unfold near
      rw [if_neg (by omega), show ∀ y, sgn f false y = y from fun y => by simp [sgn]]
      unfold rsize
      rw [h6, if_pos (by omega)]
    rw [e]
    exact ⟨fun h => ⟨h, .inl (md_below hf ha hB hB2 h (by omega))⟩, fun h => h.1⟩
  · rw [if_neg hhigh]
    have ho := odd_part ha
    unfold near
    rw [if_neg ho.2.2]
    have e := rsize_char hf (a / 2 ^ tz a) (x + tz a) B ho.2.2 (by omega) hB2 s
    have e2 : nv B (a / 2 ^ tz a) (x + tz a) = nv B a x := by
      unfold nv
      rw [show (x + (tz a : Int) - B).toNat = tz a + (x - B).toNat by omega, Nat.pow_add, ← Nat.mul_assoc, odd_mul ha]
    rw [e2] at e
    exact e
theorem le_of_steps {m n : Nat} (h : ∀ s, s + 1 ≤ m → s + 1 ≤ n) : m ≤ n := by
  cases m with
  | zero => omega
  | succ m => exact h m (Nat.le_refl _)
/-- A number that the format has is met. -/
theorem hxPat_exact {f : Fm} (hf : f.ok) {a z : Nat} {x B : Int} (hx : B ≤ x) (hB : B ≤ f.L - 1) (hz : z ≤ f.inf) (h : nv B a x = nv B (vP f z) f.L) : hxPat f a x = z := by
  have e : nv B (vP f z) f.L = (vP f z + vP f z) * 2 ^ (f.L - 1 - B).toNat := by
    unfold nv
    rw [show (f.L - B).toNat = (f.L - 1 - B).toNat + 1 by omega, Nat.pow_succ, ← Nat.two_mul]; ac_rfl
  rw [e] at h
  apply Nat.le_antisymm
  · apply le_of_steps
    intro s hs
    have h1 := (hxPat_char hf a x B hx hB s).1 hs
    apply Classical.byContradiction
    intro h2
    have h3 : vP f z + vP f z < md f s := by
      have a1 := vP_lt f s
      have a2 := vP_mono f (show z ≤ s by omega)
      unfold md; omega
    have h4 := Nat.mul_lt_mul_of_pos_right h3 (Nat.two_pow_pos (f.L - 1 - B).toNat)
    rw [h] at h1
    have h5 := h1.2
    unfold nv at h5
    omega
  · apply le_of_steps
    intro s hs
    refine (hxPat_char hf a x B hx hB s).2 ⟨by omega, .inl ?_⟩
    have h3 : md f s < vP f z + vP f z := by
      have a1 := vP_lt f s
      have a2 := vP_mono f hs
      unfold md; omega
    rw [h]
    exact Nat.mul_lt_mul_of_pos_right h3 (Nat.two_pow_pos _)
/-- near of an odd number is hxPat. -/
theorem near_char {f : Fm} (hf : f.ok) (a : Nat) (x : Int) : near f false a x = hxPat f a x := by
  have hmin : ∃ B : Int, B ≤ x ∧ B ≤ f.L - 1 := ⟨min x (f.L - 1), by omega, by omega⟩
  obtain ⟨B, h1, h2⟩ := hmin
  by_cases ha : a = 0
  · unfold near hxPat; rw [if_pos ha, if_pos (.inl ha)]
  · have e : near f false a x = rsize f a x := by unfold near; rw [if_neg ha]; rfl
    rw [e]
    apply Nat.le_antisymm
    · apply le_of_steps; intro s hs
      exact (hxPat_char hf a x B h1 h2 s).2 ((rsize_char hf a x B ha h1 h2 s).1 hs)
    · apply le_of_steps; intro s hs
      exact (rsize_char hf a x B ha h1 h2 s).2 ((hxPat_char hf a x B h1 h2 s).1 hs)
end Go.Proofs.YtibjogbalmbeeaaGreatDoor

namespace Go.Proofs.YtibjogbalmbeeaaGreatDoor

theorem md_form (f : Fm) (hP : 2 ≤ f.P) (s : Nat) : ∃ u k, md f s = (2 * k + 1) * 2 ^ u ∧ 2 * k + 1 < 2 ^ (f.P + 1) := by
  have hH := Nat.two_pow_pos (f.P - 1)
  have hH4 : 2 ^ (f.P + 1) = 4 * 2 ^ (f.P - 1) := by
    rw [show f.P + 1 = (f.P - 1) + 2 by omega, Nat.pow_add]; omega
  obtain ⟨u, q, hs, h1, h2⟩ : ∃ u q, s = u * 2 ^ (f.P - 1) + q ∧ (u = 0 ∨ 2 ^ (f.P - 1) ≤ q) ∧ q + 1 ≤ 2 * 2 ^ (f.P - 1) := by
    by_cases h : s < 2 ^ (f.P - 1)
    · exact ⟨0, s, by omega, .inl rfl, by omega⟩
    · have h3 := Nat.div_add_mod s (2 ^ (f.P - 1))
      have h4 := Nat.mod_lt s hH
      have h5 : 1 ≤ s / 2 ^ (f.P - 1) := (Nat.le_div_iff_mul_le hH).2 (by omega)
      refine ⟨s / 2 ^ (f.P - 1) - 1, 2 ^ (f.P - 1) + s % 2 ^ (f.P - 1), ?_, .inr (by omega), by omega⟩
      have h6 : (s / 2 ^ (f.P - 1) - 1) * 2 ^ (f.P - 1) + 2 ^ (f.P - 1) = 2 ^ (f.P - 1) * (s / 2 ^ (f.P - 1)) := by
        rw [← Nat.succ_mul, Nat.mul_comm]; congr 1; omega
      omega
  refine ⟨u, q, ?_, by omega⟩
  unfold md
  rw [hs, vP_enc f u q h1 (by omega), Nat.add_assoc, vP_enc f u (q + 1) (h1.imp id (fun h => by omega)) h2, ← Nat.add_mul]
  congr 1; omega
theorem quo_char {f : Fm} (hf : f.ok) (N D : Nat) (hD : 0 < D) (e B : Int) (hB : B ≤ e - 1) (hB2 : B ≤ f.L - 1) (hq : 2 ^ (f.P + 2) ≤ N / D) (s : Nat) :
    s + 1 ≤ rsize f (2 * (N / D) + (if N % D = 0 then 0 else 1)) (e - 1) ↔
      (s < f.inf ∧ (nv B (md f s) (f.L - 1) * D < N * 2 ^ (e - B).toNat ∨ (nv B (md f s) (f.L - 1) * D = N * 2 ^ (e - B).toNat ∧ s % 2 = 1))) := by
  have hP := hf.facts.1
  have hp2 := Nat.two_pow_pos (f.P + 2)
  rw [rsize_char hf _ _ B (by omega) hB hB2 s]
  refine and_congr_right fun _ => ?_
  obtain ⟨u, k, hk, hk2⟩ := md_form f hP s
  have hN := Nat.div_add_mod N D
  have hr := Nat.mod_lt N hD
  obtain ⟨c, hc⟩ : ∃ c : Nat, (e - B).toNat = c + 1 := ⟨(e - B).toNat - 1, by omega⟩
  have hc2 : (e - 1 - B).toNat = c := by omega
  have hM : nv B (md f s) (f.L - 1) = (2 * k + 1) * 2 ^ (u + (f.L - 1 - B).toNat) := by
    unfold nv; rw [hk, Nat.mul_assoc, ← Nat.pow_add]
  have hA : ∀ a, nv B a (e - 1) = a * 2 ^ c := fun a => by unfold nv; rw [hc2]
  rw [hM, hA, hc]
  generalize u + (f.L - 1 - B).toNat = v at *
  generalize N / D = q at *
  generalize N % D = r at *
  obtain ⟨st, hst, hst2⟩ : ∃ st, (if r = 0 then 0 else 1) = st ∧ (st = 0 ∧ r = 0 ∨ st = 1 ∧ 0 < r) := by
    by_cases h : r = 0
    · exact ⟨0, by rw [if_pos h], .inl ⟨rfl, h⟩⟩
    · exact ⟨1, by rw [if_neg h], .inr ⟨rfl, by omega⟩⟩
  rw [hst]
  have hp := Nat.two_pow_pos c
  by_cases hv : c + 1 ≤ v
  · -- the midpoint is a whole number of the quotient's units
    obtain ⟨t, ht⟩ : ∃ t, (2 * k + 1) * 2 ^ v = 2 * t * 2 ^ c := ⟨(2 * k + 1) * 2 ^ (v - (c + 1)), by
      rw [show v = (v - (c + 1)) + (c + 1) by omega, Nat.pow_add, Nat.pow_succ, show v - (c + 1) + (c + 1) - (c + 1) = v - (c + 1) by omega]; ac_rfl⟩
    rw [ht, Nat.pow_succ]
    have e1 : 2 * t * 2 ^ c * D = (t * D) * (2 ^ c * 2) := by ac_rfl
    rw [e1]
    have hp' : 0 < 2 ^ c * 2 := by omega
    have m1 : t * D * (2 ^ c * 2) < N * (2 ^ c * 2) ↔ t * D < N := ⟨fun h => Nat.lt_of_mul_lt_mul_right h, fun h => Nat.mul_lt_mul_of_pos_right h hp'⟩
    have m2 : t * D * (2 ^ c * 2) = N * (2 ^ c * 2) ↔ t * D = N := ⟨fun h => Nat.eq_of_mul_eq_mul_right hp' h, fun h => by rw [h]⟩
    have m3 : 2 * t * 2 ^ c < (2 * q + st) * 2 ^ c ↔ 2 * t < 2 * q + st := ⟨fun h => Nat.lt_of_mul_lt_mul_right h, fun h => Nat.mul_lt_mul_of_pos_right h hp⟩
    have m4 : 2 * t * 2 ^ c = (2 * q + st) * 2 ^ c ↔ 2 * t = 2 * q + st := ⟨fun h => Nat.eq_of_mul_eq_mul_right hp h, fun h => by rw [h]⟩
    rw [m1, m2, m3, m4]
    have hcmp : (t ≤ q → t * D ≤ D * q) ∧ (q < t → D * q + D ≤ t * D) ∧ (t < q → t * D + D ≤ D * q) := by
      refine ⟨fun h => ?_, fun h => ?_, fun h => ?_⟩
      · rw [Nat.mul_comm]; exact Nat.mul_le_mul_left _ h
      · rw [← Nat.mul_succ, Nat.mul_comm t]; exact Nat.mul_le_mul_left _ h
      · rw [← Nat.succ_mul, Nat.mul_comm]; exact Nat.mul_le_mul_left _ h
    have k1 : t * D < N ↔ 2 * t < 2 * q + st := by
      rcases Nat.lt_trichotomy t q with h | h | h
      · have := hcmp.2.2 h
        constructor <;> intro _ <;> omega
      · subst h
        have := Nat.mul_comm t D
        constructor <;> intro _ <;> omega
      · have := hcmp.2.1 h
        constructor <;> intro _ <;> omega
    have k2 : t * D = N ↔ 2 * t = 2 * q + st := by
      rcases Nat.lt_trichotomy t q with h | h | h
      · have := hcmp.2.2 h
        constructor <;> intro _ <;> omega
      · subst h
        have := Nat.mul_comm t D
        constructor <;> intro _ <;> omega
      · have := hcmp.2.1 h
        constructor <;> intro _ <;> omega
    rw [k1, k2]
  · -- the midpoint lies far below
    have b1 : (2 * k + 1) * 2 ^ v < 2 ^ (f.P + 1) * 2 ^ c := by
      have h1 : 2 ^ v ≤ 2 ^ c := Nat.pow_le_pow_right (by omega) (by omega)
      exact Nat.lt_of_lt_of_le (Nat.mul_lt_mul_of_pos_right hk2 (Nat.two_pow_pos v)) (Nat.mul_le_mul_left _ h1)
    have b2 : 2 ^ (f.P + 2) = 2 * 2 ^ (f.P + 1) := by rw [Nat.pow_succ, Nat.mul_comm]
    have b3 : 2 ^ (f.P + 1) * 2 ^ c ≤ q * 2 ^ c := Nat.mul_le_mul_right _ (by omega)
    have b4 : q * 2 ^ c ≤ (2 * q + st) * 2 ^ c := Nat.mul_le_mul_right _ (by omega)
    have b5 : (2 * k + 1) * 2 ^ v * D < q * 2 ^ c * D := Nat.mul_lt_mul_of_pos_right (by omega) hD
    have b6 : q * 2 ^ c * D ≤ N * 2 ^ (c + 1) := by
      have h2 : D * q ≤ N := by omega
      calc q * 2 ^ c * D = D * q * 2 ^ c := by ac_rfl
        _ ≤ N * 2 ^ c := Nat.mul_le_mul_right _ h2
        _ ≤ N * 2 ^ (c + 1) := Nat.mul_le_mul_left _ (Nat.pow_le_pow_right (by omega) (by omega))
    exact ⟨fun _ => .inl (by omega), fun _ => .inl (by omega)⟩

/-- p is the pattern's size to which N / D rounds: it lies above s exactly if the fraction lies above the midpoint behind s, or at it where s is odd. -/
def IsPat (f : Fm) (N D p : Nat) : Prop := ∀ s, s + 1 ≤ p ↔ (s < f.inf ∧ (md f s * D < N * 2 ^ (1 - f.L).toNat ∨ (md f s * D = N * 2 ^ (1 - f.L).toNat ∧ s % 2 = 1)))
theorem IsPat.unique {f : Fm} {N D p q : Nat} (h : IsPat f N D p) (g : IsPat f N D q) : p = q :=
  Nat.le_antisymm (le_of_steps fun s hs => (g s).2 ((h s).1 hs)) (le_of_steps fun s hs => (h s).2 ((g s).1 hs))
/-- Only the fraction's value counts. -/
theorem IsPat.scale {f : Fm} {N D p k : Nat} (hk : 0 < k) : IsPat f (N * k) (D * k) p ↔ IsPat f N D p := by
  have m1 : ∀ s, (md f s * (D * k) < N * k * 2 ^ (1 - f.L).toNat ↔ md f s * D < N * 2 ^ (1 - f.L).toNat) := fun s => by
    have e1 : md f s * (D * k) = md f s * D * k := by ac_rfl
    have e2 : N * k * 2 ^ (1 - f.L).toNat = N * 2 ^ (1 - f.L).toNat * k := by ac_rfl
    rw [e1, e2]
    exact ⟨fun h => Nat.lt_of_mul_lt_mul_right h, fun h => Nat.mul_lt_mul_of_pos_right h hk⟩
  have m2 : ∀ s, (md f s * (D * k) = N * k * 2 ^ (1 - f.L).toNat ↔ md f s * D = N * 2 ^ (1 - f.L).toNat) := fun s => by
    have e1 : md f s * (D * k) = md f s * D * k := by ac_rfl
    have e2 : N * k * 2 ^ (1 - f.L).toNat = N * 2 ^ (1 - f.L).toNat * k := by ac_rfl
    rw [e1, e2]
    exact ⟨fun h => Nat.eq_of_mul_eq_mul_right hk h, fun h => by rw [h]⟩
  unfold IsPat
  simp only [m1, m2]
theorem IsPat.same {f : Fm} {N D N' D' p : Nat} (hD : 0 < D) (hD' : 0 < D') (e : N * D' = N' * D) (h : IsPat f N D p) : IsPat f N' D' p := by
  have h1 : IsPat f (N * D') (D * D') p := (IsPat.scale hD').2 h
  rw [e, Nat.mul_comm D D'] at h1
  exact (IsPat.scale hD).1 h1
end Go.Proofs.YtibjogbalmbeeaaGreatDoor

namespace Go.Proofs.YtibjogbalmbeeaaGreatDoor

/-- The value of a digit, of digits. -/
def dgV (c : UInt8) : Nat := c.toNat - 48
def dgQ (c : UInt8) : Bool := decide (48 ≤ c.toNat) && decide (c.toNat ≤ 57)
def dcV (l : List UInt8) : Nat := l.foldl (fun a c => 10 * a + dgV c) 0
theorem dec_fold (l : List UInt8) : ∀ a, l.foldl (fun a c => 10 * a + dgV c) a = a * 10 ^ l.length + dcV l := by
  unfold dcV
  induction l with
  | nil => intro a; simp
  | cons c t ih =>
    intro a
    rw [List.foldl_cons, ih (10 * a + dgV c), List.foldl_cons, ih (10 * 0 + dgV c), List.length_cons, Nat.pow_succ, Nat.add_mul]
    have e : 10 * a * 10 ^ t.length = a * (10 ^ t.length * 10) := by ac_rfl
    rw [e, Nat.mul_zero, Nat.zero_add]; omega
theorem dcV_nil : dcV [] = 0 := rfl
theorem dcV_cons (c : UInt8) (t : List UInt8) : dcV (c :: t) = dgV c * 10 ^ t.length + dcV t := by
  show (c :: t).foldl (fun a c => 10 * a + dgV c) 0 = _
  rw [List.foldl_cons, dec_fold]; simp
theorem dcV_append (l m : List UInt8) : dcV (l ++ m) = dcV l * 10 ^ m.length + dcV m := by
  show (l ++ m).foldl (fun a c => 10 * a + dgV c) 0 = _
  rw [List.foldl_append, dec_fold m]; rfl
theorem dcV_snoc (l : List UInt8) (c : UInt8) : dcV (l ++ [c]) = dcV l * 10 + dgV c := by rw [dcV_append, dcV_cons]; simp [dcV_nil]
theorem dgQ_val {c : UInt8} (h : dgQ c = true) : 48 ≤ c.toNat ∧ c.toNat ≤ 57 ∧ dgV c ≤ 9 := by
  unfold dgQ at h
  unfold dgV
  simp only [Bool.and_eq_true, decide_eq_true_eq] at h
  omega
theorem dcV_lt {l : List UInt8} (h : l.all dgQ = true) : dcV l < 10 ^ l.length := by
  induction l with
  | nil => simp [dcV_nil]
  | cons c t ih =>
    simp only [List.all_cons, Bool.and_eq_true] at h
    have h1 := ih h.2
    have h2 := (dgQ_val h.1).2.2
    rw [dcV_cons, List.length_cons, Nat.pow_succ]
    have h3 : dgV c * 10 ^ t.length ≤ 9 * 10 ^ t.length := Nat.mul_le_mul_right _ h2
    omega
/-- A digit that is no nought in front: the value is at least a power of ten. -/
theorem dcV_ge {c : UInt8} {t : List UInt8} (h : dgQ c = true) (h0 : c ≠ 48) : 10 ^ t.length ≤ dcV (c :: t) := by
  have h1 := dgQ_val h
  have h2 : c.toNat ≠ 48 := fun e => h0 (UInt8.toNat_inj.1 e)
  have h3 : 1 ≤ dgV c := by unfold dgV; omega
  rw [dcV_cons]
  have : 1 * 10 ^ t.length ≤ dgV c * 10 ^ t.length := Nat.mul_le_mul_right _ h3
  omega
theorem dcV_zero_cons (t : List UInt8) : dcV (48 :: t) = dcV t := by rw [dcV_cons]; simp [dgV]
theorem dcV_drop (l : List UInt8) : dcV (l.dropWhile (· == 48)) = dcV l := by
  induction l with
  | nil => rfl
  | cons c t ih =>
    rw [List.dropWhile_cons]
    by_cases h : (c == 48) = true
    · rw [if_pos h, ih]
      have : c = 48 := by simpa using h
      rw [this, dcV_zero_cons]
    · rw [if_neg h]
theorem digit_byte {u : Nat} (h : u < 10) : dgQ (UInt8.ofNat (48 + u)) = true ∧ dgV (UInt8.ofNat (48 + u)) = u ∧ (UInt8.ofNat (48 + u)).toNat = 48 + u := by
  have e : (UInt8.ofNat (48 + u)).toNat = 48 + u := by simp; omega
  refine ⟨?_, ?_, e⟩
  · unfold dgQ; rw [e]; simp; omega
  · unfold dgV; rw [e]; omega
theorem dcV_digits (u : Nat) : dcV (Lib.decDigits u) = u ∧ (Lib.decDigits u).all dgQ = true ∧ (u ≠ 0 → ∃ c t, Lib.decDigits u = c :: t ∧ c ≠ 48) ∧ (Lib.decDigits u).length ≠ 0 := by
  induction u using Nat.strongRecOn with
  | _ u ih =>
    by_cases h : u < 10
    · obtain ⟨d1, d2, d3⟩ := digit_byte h
      rw [Lib.decDigits_one h]
      refine ⟨?_, ?_, fun h0 => ⟨_, [], rfl, fun e => ?_⟩, by simp⟩
      · rw [dcV_cons, dcV_nil, d2]; simp
      · rw [List.all_cons, d1]; rfl
      · have := congrArg UInt8.toNat e
        rw [d3] at this
        have e48 : (48 : UInt8).toNat = 48 := rfl
        rw [e48] at this
        omega
    · obtain ⟨d1, d2, _⟩ := digit_byte (Nat.mod_lt u (by omega : 0 < 10))
      obtain ⟨i1, i2, i3, i4⟩ := ih (u / 10) (by omega)
      have e : Lib.decDigits u = Lib.decDigits (u / 10) ++ [UInt8.ofNat (48 + u % 10)] := by rw [Lib.decDigits, dif_neg h]
      rw [e]
      refine ⟨?_, ?_, fun _ => ?_, by simp⟩
      · rw [dcV_snoc, i1, d2]; omega
      · rw [List.all_append, i2, List.all_cons, d1]; rfl
      · obtain ⟨c, t, h1, h2⟩ := i3 (by omega)
        exact ⟨c, t ++ [UInt8.ofNat (48 + u % 10)], by rw [h1]; rfl, h2⟩
end Go.Proofs.YtibjogbalmbeeaaGreatDoor

namespace Go.Proofs.YtibjogbalmbeeaaGreatDoor

theorem scale_iff {a b c d k : Nat} (hk : 0 < k) (h1 : a * k = c) (h2 : b * k = d) : (c < d ↔ a < b) ∧ (c = d ↔ a = b) := by
  subst h1; subst h2
  exact ⟨⟨fun h => Nat.lt_of_mul_lt_mul_right h, fun h => Nat.mul_lt_mul_of_pos_right h hk⟩, ⟨fun h => Nat.eq_of_mul_eq_mul_right hk h, fun h => by rw [h]⟩⟩
theorem hx_isPat {f : Fm} (hf : f.ok) (a x : Nat) : IsPat f (a * 2 ^ x) 1 (hxPat f a (x : Int)) := by
  obtain ⟨_, _, hL, _⟩ := hf.facts
  intro s
  rw [hxPat_char hf a (x : Int) (f.L - 1) (by omega) (by omega) s]
  have e1 : nv (f.L - 1) (md f s) (f.L - 1) = md f s * 1 := by unfold nv; rw [show (f.L - 1 - (f.L - 1)).toNat = 0 by omega, Nat.pow_zero]
  have e2 : nv (f.L - 1) a (x : Int) = a * 2 ^ x * 2 ^ (1 - f.L).toNat := by
    unfold nv
    rw [show ((x : Int) - (f.L - 1)).toNat = x + (1 - f.L).toNat by omega, Nat.pow_add, Nat.mul_assoc]
  rw [e1, e2]
theorem quo_isPat {f : Fm} (hf : f.ok) (A B xa xb s : Nat) (hB : B ≠ 0) (hs : f.P + 3 + blen B ≤ blen A + s) (hA : A ≠ 0) :
    IsPat f (A * 2 ^ xa) (B * 2 ^ xb) (rsize f (2 * (A * 2 ^ s / B) + (if A * 2 ^ s % B = 0 then 0 else 1)) ((xa : Int) - xb - s - 1)) := by
  obtain ⟨_, _, hL, _⟩ := hf.facts
  have hB0 : 0 < B := by omega
  obtain ⟨C, hC1, hC2⟩ : ∃ C : Int, C ≤ (xa : Int) - xb - s - 1 ∧ C ≤ f.L - 1 := ⟨min ((xa : Int) - xb - s - 1) (f.L - 1), by omega, by omega⟩
  have hq : 2 ^ (f.P + 2) ≤ A * 2 ^ s / B := by
    rw [Nat.le_div_iff_mul_le hB0]
    have h1 := blen_lo hA
    have h2 := blen_hi B
    have h3 := blen_pos hA
    have h4 : 2 ^ (blen A - 1) * 2 ^ s ≤ A * 2 ^ s := Nat.mul_le_mul_right _ h1
    have h5 : 2 ^ (f.P + 2) * B ≤ 2 ^ (f.P + 2) * 2 ^ blen B := Nat.mul_le_mul_left _ (Nat.le_of_lt h2)
    rw [← Nat.pow_add] at h4 h5
    have h6 : 2 ^ (f.P + 2 + blen B) ≤ 2 ^ (blen A - 1 + s) := Nat.pow_le_pow_right (by omega) (by omega)
    omega
  intro t
  rw [quo_char hf (A * 2 ^ s) B hB0 ((xa : Int) - xb - s) C hC1 hC2 hq t]
  have key := scale_iff (a := md f t * (B * 2 ^ xb)) (b := A * 2 ^ xa * 2 ^ (1 - f.L).toNat) (k := 2 ^ (f.L - 1 - C).toNat) (Nat.two_pow_pos _) rfl rfl
  have key2 := scale_iff (a := nv C (md f t) (f.L - 1) * B) (b := A * 2 ^ s * 2 ^ ((xa : Int) - xb - s - C).toNat) (c := md f t * (B * 2 ^ xb) * 2 ^ (f.L - 1 - C).toNat) (d := A * 2 ^ xa * 2 ^ (1 - f.L).toNat * 2 ^ (f.L - 1 - C).toNat) (k := 2 ^ xb) (Nat.two_pow_pos _)
    (by unfold nv; ac_rfl)
    (by
      rw [Nat.mul_assoc A, Nat.mul_assoc A, ← Nat.pow_add, ← Nat.pow_add, Nat.mul_assoc A, Nat.mul_assoc A, ← Nat.pow_add, ← Nat.pow_add]
      congr 2; omega)
  rw [← key.1, ← key.2, ← key2.1, ← key2.2]
/-- Exponents, named (a numeral there would be reckoned out). -/
def xLo : Nat := 1075
def xHi : Nat := 1025
def xT : Nat := 1300
theorem xs_eq : xLo = 1075 ∧ xHi = 1025 ∧ xT = 1300 := ⟨rfl, rfl, rfl⟩
theorem pat_zero {f : Fm} (hf : f.ok) {N D : Nat} (h : N * 2 ^ xLo < D) : IsPat f N D 0 := by
  obtain ⟨_, hL, _, _⟩ := hf.facts
  intro s
  refine ⟨fun h => by omega, fun h1 => absurd h1.2 ?_⟩
  have h2 := md_pos f s
  have h3 : N * 2 ^ (1 - f.L).toNat ≤ N * 2 ^ xLo := Nat.mul_le_mul_left _ (Nat.pow_le_pow_right (by omega) (by have := xs_eq.1; omega))
  have h4 : 1 * D ≤ md f s * D := Nat.mul_le_mul_right _ h2
  intro h5
  generalize N * 2 ^ xLo = z at *
  omega
theorem pat_inf {f : Fm} (hf : f.ok) {N D : Nat} (hD : 0 < D) (h : 2 ^ xHi * D ≤ N) : IsPat f N D f.inf := by
  obtain ⟨_, _, hL, K, hK, hKL⟩ := hf.facts
  intro s
  refine ⟨fun h1 => ⟨h1, .inl ?_⟩, fun h1 => h1.1⟩
  have a1 := vP_lt f s
  have a2 := vP_mono f h1
  have h2 : md f s < 2 ^ (K + 1) := by
    rw [hK] at a2
    rw [Nat.pow_succ]
    unfold md; omega
  have h3 : 2 ^ (K + 1) ≤ 2 ^ xHi * 2 ^ (1 - f.L).toNat := by
    rw [← Nat.pow_add]; exact Nat.pow_le_pow_right (by omega) (by have := xs_eq.2.1; omega)
  have h4 : md f s * D < 2 ^ xHi * 2 ^ (1 - f.L).toNat * D := Nat.mul_lt_mul_of_pos_right (Nat.lt_of_lt_of_le h2 h3) hD
  have h5 : 2 ^ xHi * D * 2 ^ (1 - f.L).toNat ≤ N * 2 ^ (1 - f.L).toNat := Nat.mul_le_mul_right _ h
  have e : 2 ^ xHi * 2 ^ (1 - f.L).toNat * D = 2 ^ xHi * D * 2 ^ (1 - f.L).toNat := Nat.mul_right_comm _ _ _
  rw [e] at h4
  exact Nat.lt_of_lt_of_le h4 h5
theorem ten_big (k : Nat) (h : 400 ≤ k) : 2 ^ xT ≤ 10 ^ k := by
  obtain ⟨a, b, d, ha, hb, hd, h1⟩ : ∃ a b d : Nat, a = 13 ∧ b = 4 ∧ d = 100 ∧ xT = a * d := ⟨13, 4, 100, rfl, rfl, rfl, rfl⟩
  have h2 : (2 : Nat) ^ a ≤ 10 ^ b := by rw [ha, hb]; omega
  have h3 : ((2 : Nat) ^ a) ^ d ≤ (10 ^ b) ^ d := Nat.pow_le_pow_left h2 d
  rw [← Nat.pow_mul, ← Nat.pow_mul, ← h1] at h3
  have h4 : b * d ≤ k := by rw [hb, hd]; omega
  exact Nat.le_trans h3 (Nat.pow_le_pow_right (by omega) h4)
/-- The fraction m * 10^x. -/
def tn (m : Nat) (x : Int) : Nat := m * 10 ^ x.toNat
def td (x : Int) : Nat := 10 ^ (-x).toNat
theorem td_pos (x : Int) : 0 < td x := Nat.pow_pos (by omega)
/-- A number of n digits at the exponent x that lies below 10^-400 rounds to nought, one from 10^400 on to the infinity. -/
theorem dec_low {f : Fm} (hf : f.ok) {m n : Nat} {x : Int} (hm : m < 10 ^ n) (h : (n : Int) + x < -400) : IsPat f (tn m x) (td x) 0 := by
  refine pat_zero hf ?_
  unfold tn td
  rw [show x.toNat = 0 by omega, Nat.pow_zero, Nat.mul_one]
  have h1 : (10 : Nat) ^ (-x).toNat = 10 ^ n * 10 ^ ((-x).toNat - n) := by rw [← Nat.pow_add]; congr 1; omega
  have h2 : 2 ^ xT ≤ 10 ^ ((-x).toNat - n) := ten_big _ (by omega)
  have h3 : (2 : Nat) ^ xLo ≤ 2 ^ xT := Nat.pow_le_pow_right (by omega) (by have := xs_eq; omega)
  rw [h1]
  have h4 : m * 2 ^ xLo < 10 ^ n * 2 ^ xLo := Nat.mul_lt_mul_of_pos_right hm (Nat.two_pow_pos _)
  exact Nat.lt_of_lt_of_le h4 (Nat.mul_le_mul_left _ (Nat.le_trans h3 h2))
theorem dec_high {f : Fm} (hf : f.ok) {m n : Nat} {x : Int} (hn : 1 ≤ n) (hm : 10 ^ (n - 1) ≤ m) (h : 400 < (n : Int) + x) : IsPat f (tn m x) (td x) f.inf := by
  refine pat_inf hf (td_pos x) ?_
  unfold tn td
  have h3 : (2 : Nat) ^ xHi ≤ 2 ^ xT := Nat.pow_le_pow_right (by omega) (by have := xs_eq; omega)
  have h1 : 10 ^ (n - 1) * 10 ^ x.toNat ≤ m * 10 ^ x.toNat := Nat.mul_le_mul_right _ hm
  refine Nat.le_trans ?_ h1
  obtain ⟨k, hk, hk2⟩ : ∃ k, n - 1 + x.toNat = k + (-x).toNat ∧ 400 ≤ k := ⟨n - 1 + x.toNat - (-x).toNat, by omega, by omega⟩
  rw [← Nat.pow_add, hk, Nat.pow_add]
  exact Nat.mul_le_mul_right _ (Nat.le_trans h3 (ten_big k hk2))
end Go.Proofs.YtibjogbalmbeeaaGreatDoor
