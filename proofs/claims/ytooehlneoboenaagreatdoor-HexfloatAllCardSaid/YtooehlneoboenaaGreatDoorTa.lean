/- Plain law: what hxPat is, told by the midpoints between neighbours. No program in sight. -/
import Derived.Test.YtooehlneoboenaaGreatDoorHd
namespace Go.Proofs.YtooehlneoboenaaGreatDoor

theorem rne_cases (a n : Nat) : ∃ q r, a = 2 ^ n * q + r ∧ r < 2 ^ n ∧ rne a n = q + (if 2 ^ n < 2 * r ∨ (2 * r = 2 ^ n ∧ q % 2 = 1) then 1 else 0) := by
  refine ⟨a / 2 ^ n, a % 2 ^ n, (Nat.div_add_mod a _).symm, Nat.mod_lt _ (Nat.two_pow_pos n), ?_⟩
  have htb : tb (a / 2 ^ n) 0 = decide (a / 2 ^ n % 2 = 1) := by unfold tb; rw [Nat.testBit_zero]
  unfold rne
  congr 1
  rw [htb]
  have key : moreN (decide (a / 2 ^ n % 2 = 1)) (halfOf a n) = decide (2 ^ n < 2 * (a % 2 ^ n) ∨ (2 * (a % 2 ^ n) = 2 ^ n ∧ a / 2 ^ n % 2 = 1)) := by
    by_cases h0 : n = 0
    · subst h0
      unfold halfOf moreN
      rw [if_neg (by simp)]
      simp [Nat.mod_one]
    · obtain ⟨m, rfl⟩ : ∃ m, n = m + 1 := ⟨n - 1, by omega⟩
      have hp := Nat.two_pow_pos m
      have e1 : a % 2 ^ (m + 1) = a % 2 ^ m + 2 ^ m * (a / 2 ^ m % 2) := by rw [Nat.pow_succ, Nat.mod_mul]
      have htb2 : tb a (m + 1 - 1) = decide (a / 2 ^ m % 2 = 1) := by
        unfold tb; rw [Nat.add_sub_cancel, Nat.testBit_eq_decide_div_mod_eq]
      have hlt : a % 2 ^ m < 2 ^ m := Nat.mod_lt _ hp
      unfold halfOf
      rw [htb2, e1, Nat.pow_succ]
      by_cases hb : a / 2 ^ m % 2 = 1
      · rw [hb, decide_eq_true rfl, Nat.mul_one, Nat.add_sub_cancel]
        by_cases hr : a % 2 ^ m = 0
        · have htz : tz a = m := by
            refine tz_of (m := a / 2 ^ m / 2) ?_
            have h1 := Nat.div_add_mod a (2 ^ m)
            have h2 := Nat.div_add_mod (a / 2 ^ m) 2
            rw [hb] at h2
            rw [h2]; omega
          rw [if_pos ⟨h0, rfl⟩, if_pos htz, hr]
          have c2 : 2 * 2 ^ m = 2 ^ m * 2 := Nat.mul_comm _ _
          unfold moreN
          simp [c2]
        · have htz : ¬ tz a = m := by
            intro h
            have ha : a ≠ 0 := by intro e; subst e; simp at hb
            obtain ⟨c, hc⟩ := tz_spec ha
            rw [h] at hc
            apply hr
            rw [hc, Nat.mul_mod_right]
          rw [if_pos ⟨h0, rfl⟩, if_neg htz]
          unfold moreN
          rw [Bool.eq_iff_iff]
          simp
          omega
      · have hb0 : a / 2 ^ m % 2 = 0 := by omega
        rw [if_neg (by simp [hb0]), hb0]
        unfold moreN
        rw [Bool.eq_iff_iff]
        simp
        omega
  rw [key]
  simp

/-- A format's patterns, in units of the least number: the number of the size s. -/
def vP (f : Fm) (s : Nat) : Nat := if s < 2 ^ (f.P - 1) then s else (2 ^ (f.P - 1) + s % 2 ^ (f.P - 1)) * 2 ^ (s / 2 ^ (f.P - 1) - 1)
/-- Twice the midpoint above the size s. -/
def md (f : Fm) (s : Nat) : Nat := vP f s + vP f (s + 1)
theorem vP_enc (f : Fm) (u q : Nat) (h : u = 0 ∨ 2 ^ (f.P - 1) ≤ q) (hq : q ≤ 2 * 2 ^ (f.P - 1)) : vP f (u * 2 ^ (f.P - 1) + q) = q * 2 ^ u := by
  have hH := Nat.two_pow_pos (f.P - 1)
  unfold vP
  generalize 2 ^ (f.P - 1) = H at *
  by_cases h1 : u * H + q < H
  · have hu : u = 0 := by
      rcases h with h | h
      · exact h
      · omega
    subst hu
    rw [if_pos h1]; simp
  · rw [if_neg h1]
    have hqH : H ≤ q := by
      rcases h with h | h
      · subst h; omega
      · exact h
    by_cases h2 : q = 2 * H
    · have e : u * H + q = (u + 2) * H := by rw [h2, Nat.add_mul]
      rw [e, Nat.mul_mod_left, Nat.mul_div_cancel _ hH, h2, show u + 2 - 1 = u + 1 by omega, Nat.pow_succ, Nat.add_zero]
      ac_rfl
    · have e : u * H + q = (q - H) + H * (u + 1) := by rw [Nat.mul_add, Nat.mul_comm u]; omega
      rw [e, Nat.add_mul_mod_self_left, Nat.add_mul_div_left _ _ hH, Nat.mod_eq_of_lt (by omega), Nat.div_eq_of_lt (by omega), show 0 + (u + 1) - 1 = u by omega, show H + (q - H) = q by omega]
theorem vP_lt (f : Fm) (s : Nat) : vP f s < vP f (s + 1) := by
  have hH := Nat.two_pow_pos (f.P - 1)
  obtain ⟨u, q, hs, h1, h2⟩ : ∃ u q, s = u * 2 ^ (f.P - 1) + q ∧ (u = 0 ∨ 2 ^ (f.P - 1) ≤ q) ∧ q + 1 ≤ 2 * 2 ^ (f.P - 1) := by
    by_cases h : s < 2 ^ (f.P - 1)
    · exact ⟨0, s, by omega, .inl rfl, by omega⟩
    · have hm := Nat.mod_lt s hH
      have hd := Nat.div_add_mod s (2 ^ (f.P - 1))
      have hd1 : 1 ≤ s / 2 ^ (f.P - 1) := (Nat.le_div_iff_mul_le hH).2 (by omega)
      refine ⟨s / 2 ^ (f.P - 1) - 1, 2 ^ (f.P - 1) + s % 2 ^ (f.P - 1), ?_, .inr (by omega), by omega⟩
      generalize s / 2 ^ (f.P - 1) = d at *
      obtain ⟨e, rfl⟩ : ∃ e, d = e + 1 := ⟨d - 1, by omega⟩
      rw [Nat.mul_add, Nat.mul_comm _ e] at hd
      rw [Nat.add_sub_cancel]
      omega
  rw [hs, Nat.add_assoc, vP_enc f u q h1 (by omega), vP_enc f u (q + 1) (h1.imp id (by omega)) h2, Nat.add_mul]
  have := Nat.two_pow_pos u
  omega
theorem vP_mono (f : Fm) {s t : Nat} (h : s ≤ t) : vP f s ≤ vP f t := by
  induction h with
  | refl => exact Nat.le_refl _
  | step _ ih => exact Nat.le_trans ih (Nat.le_of_lt (vP_lt f _))
theorem vP_zero (f : Fm) : vP f 0 = 0 := by unfold vP; rw [if_pos (Nat.two_pow_pos _)]
theorem md_pos (f : Fm) (s : Nat) : 1 ≤ md f s := by have := vP_lt f s; unfold md; omega

/-- a * 2^x in units of 2^B. -/
def nv (B : Int) (a : Nat) (x : Int) : Nat := a * 2 ^ (x - B).toNat

/-- What unitsOf is made of. -/
theorem units_parts (f : Fm) (hP : 2 ≤ f.P) (a : Nat) (x B : Int) (ha : a ≠ 0) (hB : B ≤ x) (hB2 : B ≤ f.L - 1) :
    ∃ u q d, (unitOf f a x - f.L).toNat * 2 ^ (f.P - 1) + unitsOf f a x = u * 2 ^ (f.P - 1) + q + d ∧ (u = 0 ∨ 2 ^ (f.P - 1) ≤ q) ∧ q + 1 ≤ 2 * 2 ^ (f.P - 1) ∧
      q * (2 * 2 ^ (u + (f.L - 1 - B).toNat)) ≤ nv B a x ∧ nv B a x < (q + 1) * (2 * 2 ^ (u + (f.L - 1 - B).toNat)) ∧
      ((d = 1 ∧ ((2 * q + 1) * 2 ^ (u + (f.L - 1 - B).toNat) < nv B a x ∨ ((2 * q + 1) * 2 ^ (u + (f.L - 1 - B).toNat) = nv B a x ∧ q % 2 = 1))) ∨
       (d = 0 ∧ ¬ ((2 * q + 1) * 2 ^ (u + (f.L - 1 - B).toNat) < nv B a x ∨ ((2 * q + 1) * 2 ^ (u + (f.L - 1 - B).toNat) = nv B a x ∧ q % 2 = 1)))) := by
  have hblo := blen_lo ha
  have hbhi := blen_hi a
  have hb1 := blen_pos ha
  have hu1 : x + blen a - f.P ≤ unitOf f a x := by unfold unitOf; omega
  have hu2 : f.L ≤ unitOf f a x := by unfold unitOf; omega
  have hu3 : unitOf f a x = f.L ∨ unitOf f a x = x + blen a - f.P := by unfold unitOf; omega
  have e2 : 2 * 2 ^ (f.P - 1) = 2 ^ f.P := by rw [← Nat.pow_succ']; congr 1; omega
  have hx0 : 0 ≤ x - B := by omega
  have hm0 : 0 ≤ f.L - 1 - B := by omega
  unfold unitsOf nv
  rw [e2]
  generalize hU : unitOf f a x = U at *
  obtain ⟨k, hk⟩ : ∃ k : Nat, (x - B).toNat = k := ⟨_, rfl⟩
  obtain ⟨m, hm⟩ : ∃ m : Nat, (f.L - 1 - B).toNat = m := ⟨_, rfl⟩
  obtain ⟨u, hu⟩ : ∃ u : Nat, (U - f.L).toNat = u := ⟨_, rfl⟩
  rw [hk, hm, hu]
  have hum : 2 * 2 ^ (u + m) = 2 ^ (u + m + 1) := by rw [Nat.pow_succ']
  by_cases hx : x ≤ U
  · rw [if_pos hx]
    obtain ⟨n, hn⟩ : ∃ n : Nat, (U - x).toNat = n := ⟨_, rfl⟩
    rw [hn]
    have hnk : n + k = u + m + 1 := by omega
    obtain ⟨q, r, hqr, hr, hrne⟩ := rne_cases a n
    have hqP : q < 2 ^ f.P := by
      have h1 : 2 ^ n * q < 2 ^ n * 2 ^ f.P := by
        rw [← Nat.pow_add]
        have : 2 ^ blen a ≤ 2 ^ (n + f.P) := Nat.pow_le_pow_right (by omega) (by omega)
        omega
      exact Nat.lt_of_mul_lt_mul_left h1
    have hqH : u = 0 ∨ 2 ^ (f.P - 1) ≤ q := by
      by_cases h0 : u = 0
      · exact .inl h0
      · right
        have hn2 : blen a = n + f.P := by omega
        have h1 : 2 ^ n * 2 ^ (f.P - 1) ≤ a := by rw [← Nat.pow_add, show n + (f.P - 1) = blen a - 1 by omega]; exact hblo
        have h2 : 2 ^ n * 2 ^ (f.P - 1) < 2 ^ n * (q + 1) := by rw [Nat.mul_add, Nat.mul_one]; omega
        have := Nat.lt_of_mul_lt_mul_left h2
        omega
    have hE : 2 ^ n * 2 ^ k = 2 * 2 ^ (u + m) := by rw [← Nat.pow_add, hnk, hum]
    have hT : a * 2 ^ k = q * (2 * 2 ^ (u + m)) + r * 2 ^ k := by
      rw [hqr, Nat.add_mul, ← hE]
      congr 1
      ac_rfl
    have hrk : r * 2 ^ k < 2 * 2 ^ (u + m) := by rw [← hE]; exact Nat.mul_lt_mul_of_pos_right hr (Nat.two_pow_pos k)
    have hc1 : 2 ^ n < 2 * r ↔ 2 ^ (u + m) < r * 2 ^ k := by
      have : 2 ^ n < 2 * r ↔ 2 ^ n * 2 ^ k < 2 * r * 2 ^ k := (Nat.mul_lt_mul_right (Nat.two_pow_pos k)).symm
      rw [this, hE, Nat.mul_assoc]; omega
    have hc2 : 2 * r = 2 ^ n ↔ r * 2 ^ k = 2 ^ (u + m) := by
      have : 2 * r = 2 ^ n ↔ 2 * r * 2 ^ k = 2 ^ n * 2 ^ k := ⟨fun h => by rw [h], fun h => Nat.eq_of_mul_eq_mul_right (Nat.two_pow_pos k) h⟩
      rw [this, hE, Nat.mul_assoc]; omega
    have hd2 : q * (2 * 2 ^ (u + m)) + 2 ^ (u + m) = (2 * q + 1) * 2 ^ (u + m) := by rw [Nat.add_mul, Nat.one_mul]; congr 1; ac_rfl
    have hc3 : (2 ^ n < 2 * r ∨ (2 * r = 2 ^ n ∧ q % 2 = 1)) ↔ ((2 * q + 1) * 2 ^ (u + m) < a * 2 ^ k ∨ ((2 * q + 1) * 2 ^ (u + m) = a * 2 ^ k ∧ q % 2 = 1)) := by
      rw [hc1, hc2, hT, ← hd2]; omega
    rw [hrne]
    by_cases hc : 2 ^ n < 2 * r ∨ (2 * r = 2 ^ n ∧ q % 2 = 1)
    · refine ⟨u, q, 1, by rw [if_pos hc]; omega, hqH, by omega, by rw [hT]; omega, by rw [hT, Nat.add_mul]; omega, .inl ⟨rfl, hc3.1 hc⟩⟩
    · refine ⟨u, q, 0, by rw [if_neg hc]; omega, hqH, by omega, by rw [hT]; omega, by rw [hT, Nat.add_mul]; omega, .inr ⟨rfl, fun h => hc (hc3.2 h)⟩⟩
  · rw [if_neg hx]
    obtain ⟨n, hn⟩ : ∃ n : Nat, (x - U).toNat = n := ⟨_, rfl⟩
    rw [hn]
    have hnk : k = n + (u + m + 1) := by omega
    have hT : a * 2 ^ k = a * 2 ^ n * (2 * 2 ^ (u + m)) := by rw [hnk, Nat.pow_add, hum, Nat.mul_assoc]
    have hqP : a * 2 ^ n < 2 ^ f.P := by
      have h1 : a * 2 ^ n < 2 ^ blen a * 2 ^ n := Nat.mul_lt_mul_of_pos_right hbhi (Nat.two_pow_pos n)
      rw [← Nat.pow_add] at h1
      have : 2 ^ (blen a + n) ≤ 2 ^ f.P := Nat.pow_le_pow_right (by omega) (by omega)
      omega
    have hqH : u = 0 ∨ 2 ^ (f.P - 1) ≤ a * 2 ^ n := by
      by_cases h0 : u = 0
      · exact .inl h0
      · right
        have h1 : 2 ^ (blen a - 1) * 2 ^ n ≤ a * 2 ^ n := Nat.mul_le_mul_right _ hblo
        rw [← Nat.pow_add, show blen a - 1 + n = f.P - 1 by omega] at h1
        exact h1
    have hp := Nat.two_pow_pos (u + m)
    rw [hT]
    generalize a * 2 ^ n = q at *
    have hd2 : q * (2 * 2 ^ (u + m)) + 2 ^ (u + m) = (2 * q + 1) * 2 ^ (u + m) := by rw [Nat.add_mul, Nat.one_mul]; congr 1; ac_rfl
    refine ⟨u, q, 0, rfl, hqH, by omega, Nat.le_refl _, by rw [Nat.add_mul]; omega, .inr ⟨rfl, by rw [← hd2]; omega⟩⟩

/-- The rounded number, without a limit above, lies above s exactly if the number lies above the midpoint behind s, or at it where s is odd. -/
theorem units_char (f : Fm) (hP : 2 ≤ f.P) (a : Nat) (x B : Int) (ha : a ≠ 0) (hB : B ≤ x) (hB2 : B ≤ f.L - 1) (s : Nat) :
    s + 1 ≤ (unitOf f a x - f.L).toNat * 2 ^ (f.P - 1) + unitsOf f a x ↔ (nv B (md f s) (f.L - 1) < nv B a x ∨ (nv B (md f s) (f.L - 1) = nv B a x ∧ s % 2 = 1)) := by
  obtain ⟨u, q, d, hR, h1, h2, h3, h4, h5⟩ := units_parts f hP a x B ha hB hB2
  rw [hR]
  have hv0 := vP_enc f u q h1 (by omega)
  have hv1 := vP_enc f u (q + 1) (h1.imp id (by omega)) h2
  rw [← Nat.add_assoc] at hv1
  have hpar : (u * 2 ^ (f.P - 1) + q) % 2 = q % 2 := by
    obtain ⟨c, hc⟩ : ∃ c, 2 ^ (f.P - 1) = 2 * c := ⟨2 ^ (f.P - 2), by rw [← Nat.pow_succ']; congr 1; omega⟩
    rw [hc, Nat.mul_left_comm]; omega
  rw [show nv B (md f s) (f.L - 1) = md f s * 2 ^ (f.L - 1 - B).toNat from rfl]
  generalize nv B a x = T at *
  generalize (f.L - 1 - B).toNat = m at *
  generalize u * 2 ^ (f.P - 1) + q = s0 at *
  rw [Nat.pow_add] at h3 h4 h5
  have e1 : q * (2 * (2 ^ u * 2 ^ m)) = (vP f s0 + vP f s0) * 2 ^ m := by rw [hv0, ← Nat.two_mul]; ac_rfl
  have e2 : (q + 1) * (2 * (2 ^ u * 2 ^ m)) = (vP f (s0 + 1) + vP f (s0 + 1)) * 2 ^ m := by rw [hv1, ← Nat.two_mul]; ac_rfl
  have e3 : (2 * q + 1) * (2 ^ u * 2 ^ m) = md f s0 * 2 ^ m := by
    unfold md
    rw [hv0, hv1, ← Nat.add_mul, ← Nat.mul_assoc]
    congr 2; omega
  rw [e1] at h3
  rw [e2] at h4
  rw [e3] at h5
  rcases Nat.lt_trichotomy s s0 with h | h | h
  · have h6 : md f s < vP f s0 + vP f s0 := by
      have a1 := vP_lt f s
      have a2 := vP_mono f (show s + 1 ≤ s0 from h)
      unfold md; omega
    have h7 := Nat.mul_lt_mul_of_pos_right h6 (Nat.two_pow_pos m)
    exact ⟨fun _ => .inl (by omega), fun _ => by omega⟩
  · subst h
    rw [hpar]
    rcases h5 with ⟨rfl, h5⟩ | ⟨rfl, h5⟩
    · exact ⟨fun _ => h5, fun _ => Nat.le_refl _⟩
    · exact ⟨fun h => by omega, fun h => absurd h h5⟩
  · have h6 : vP f (s0 + 1) + vP f (s0 + 1) < md f s := by
      have a1 := vP_lt f s
      have a2 := vP_mono f (show s0 + 1 ≤ s from h)
      unfold md; omega
    have h7 := Nat.mul_lt_mul_of_pos_right h6 (Nat.two_pow_pos m)
    have hd : d ≤ 1 := by rcases h5 with ⟨rfl, _⟩ | ⟨rfl, _⟩ <;> omega
    exact ⟨fun _ => by omega, fun h => by omega⟩
theorem vP_inf (f : Fm) (u : Nat) (e : f.inf = u * 2 ^ (f.P - 1) + 2 ^ (f.P - 1)) : vP f f.inf = 2 ^ (f.P - 1 + u) := by
  rw [e, vP_enc f u (2 ^ (f.P - 1)) (.inr (Nat.le_refl _)) (by omega), Nat.pow_add]
theorem Fm.ok.facts {f : Fm} (h : f.ok) : 2 ≤ f.P ∧ -1074 ≤ f.L ∧ f.L < 0 ∧ ∃ K : Nat, vP f f.inf = 2 ^ K ∧ (K : Int) + f.L ≤ 1024 := by
  rcases h with h | h <;> subst h
  · exact ⟨by decide, by decide, by decide, fmS.P - 1 + 254, vP_inf fmS 254 (by decide), by decide⟩
  · exact ⟨by decide, by decide, by decide, fmD.P - 1 + 2046, vP_inf fmD 2046 (by decide), by decide⟩
/-- Beyond every midpoint. -/
theorem md_below {f : Fm} (hf : f.ok) {B x : Int} {a s : Nat} (ha : a ≠ 0) (hB : B ≤ x) (hB2 : B ≤ f.L - 1) (hs : s < f.inf) (hx : 1100 ≤ x + blen a - 1) : nv B (md f s) (f.L - 1) < nv B a x := by
  obtain ⟨h1, h2, h3, K, hK, hKL⟩ := hf.facts
  have a1 := vP_lt f s
  have a2 := vP_mono f (show s + 1 ≤ f.inf from hs)
  have hmd : md f s ≤ 2 ^ (K + 1) := by unfold md; rw [Nat.pow_succ]; omega
  unfold nv
  have b1 := Nat.mul_le_mul_right (2 ^ (f.L - 1 - B).toNat) hmd
  have b2 := Nat.mul_le_mul_right (2 ^ (x - B).toNat) (blen_lo ha)
  have b3 := blen_pos ha
  rw [← Nat.pow_add] at b1 b2
  have b4 : 2 ^ (K + 1 + (f.L - 1 - B).toNat) < 2 ^ (blen a - 1 + (x - B).toNat) := Nat.pow_lt_pow_right (by omega) (by omega)
  omega
theorem rsize_char {f : Fm} (hf : f.ok) (a : Nat) (x B : Int) (ha : a ≠ 0) (hB : B ≤ x) (hB2 : B ≤ f.L - 1) (s : Nat) :
    s + 1 ≤ rsize f a x ↔ (s < f.inf ∧ (nv B (md f s) (f.L - 1) < nv B a x ∨ (nv B (md f s) (f.L - 1) = nv B a x ∧ s % 2 = 1))) := by
  unfold rsize
  by_cases h : 1100 < x + blen a - 1
  · rw [if_pos h]
    exact ⟨fun h1 => ⟨h1, .inl (md_below hf ha hB hB2 h1 (by omega))⟩, fun h1 => h1.1⟩
  · rw [if_neg h]
    have := units_char f hf.facts.1 a x B ha hB hB2 s
    rw [← this, Nat.le_min]
    exact ⟨fun h1 => ⟨by omega, h1.1⟩, fun h1 => ⟨h1.2, by omega⟩⟩
theorem odd_mul {a : Nat} (h : a ≠ 0) : a / 2 ^ tz a * 2 ^ tz a = a := by
  obtain ⟨m, hm⟩ := tz_spec h
  exact Nat.div_mul_cancel ⟨2 * m + 1, hm⟩
/-- hxPat answers above s exactly if the number lies above the midpoint behind s, or at it where s is odd: in units of any 2^B that is small enough. -/
theorem hxPat_char {f : Fm} (hf : f.ok) (a : Nat) (x B : Int) (hB : B ≤ x) (hB2 : B ≤ f.L - 1) (s : Nat) :
    s + 1 ≤ hxPat f a x ↔ (s < f.inf ∧ (nv B (md f s) (f.L - 1) < nv B a x ∨ (nv B (md f s) (f.L - 1) = nv B a x ∧ s % 2 = 1))) := by
  obtain ⟨h1, h2, h3, K, hK, hKL⟩ := hf.facts
  have hmp : 1 * 2 ^ (f.L - 1 - B).toNat ≤ nv B (md f s) (f.L - 1) := Nat.mul_le_mul_right _ (md_pos f s)
  have hpp := Nat.two_pow_pos (f.L - 1 - B).toNat
  unfold hxPat
  by_cases ha : a = 0
  · rw [if_pos (.inl ha)]
    have : nv B a x = 0 := by unfold nv; rw [ha, Nat.zero_mul]
    exact ⟨fun h => by omega, fun h => by omega⟩
  by_cases hlow : blen a + x < -2000
  · rw [if_pos (.inr hlow)]
    have h4 : nv B a x < 2 ^ (blen a + (x - B).toNat) := by
      unfold nv; rw [Nat.pow_add]; exact Nat.mul_lt_mul_of_pos_right (blen_hi a) (Nat.two_pow_pos _)
    have h5 : 2 ^ (blen a + (x - B).toNat) ≤ 2 ^ (f.L - 1 - B).toNat := Nat.pow_le_pow_right (by omega) (by omega)
    exact ⟨fun h => by omega, fun h => by omega⟩
  rw [if_neg (fun h => h.elim ha hlow)]
  by_cases hhigh : 2000 < blen a + x
  · rw [if_pos hhigh]
    have e : near f false 1 2000 = f.inf := by
      have h6 : blen 1 = 1 := by decide
      unfold near
      rw [if_neg (by omega), show ∀ y, sgn f false y = y from fun y => by simp [sgn]]
      unfold rsize
      rw [h6, if_pos (by omega)]
    rw [e]
    exact ⟨fun h => ⟨h, .inl (md_below hf ha hB hB2 h (by omega))⟩, fun h => h.1⟩
  · rw [if_neg hhigh]
    have ho := odd_part ha
    unfold near
    rw [if_neg ho.2.2]
    have e := rsize_char hf (a / 2 ^ tz a) (x + tz a) B ho.2.2 (by omega) hB2 s
    have e2 : nv B (a / 2 ^ tz a) (x + tz a) = nv B a x := by
      unfold nv
      rw [show (x + (tz a : Int) - B).toNat = tz a + (x - B).toNat by omega, Nat.pow_add, ← Nat.mul_assoc, odd_mul ha]
    rw [e2] at e
    exact e
theorem le_of_steps {m n : Nat} (h : ∀ s, s + 1 ≤ m → s + 1 ≤ n) : m ≤ n := by
  cases m with
  | zero => omega
  | succ m => exact h m (Nat.le_refl _)
theorem hxPat_mono {f : Fm} (hf : f.ok) {a b : Nat} {x y B : Int} (hx : B ≤ x) (hy : B ≤ y) (hB : B ≤ f.L - 1) (h : nv B a x ≤ nv B b y) : hxPat f a x ≤ hxPat f b y := by
  apply le_of_steps
  intro s hs
  have h1 := (hxPat_char hf a x B hx hB s).1 hs
  exact (hxPat_char hf b y B hy hB s).2 ⟨h1.1, by omega⟩
theorem hxPat_same {f : Fm} (hf : f.ok) {a b : Nat} {x y B : Int} (hx : B ≤ x) (hy : B ≤ y) (hB : B ≤ f.L - 1) (h : nv B a x = nv B b y) : hxPat f a x = hxPat f b y :=
  Nat.le_antisymm (hxPat_mono hf hx hy hB (by omega)) (hxPat_mono hf hy hx hB (by omega))
/-- A number that the format has is met. -/
theorem hxPat_exact {f : Fm} (hf : f.ok) {a z : Nat} {x B : Int} (hx : B ≤ x) (hB : B ≤ f.L - 1) (hz : z ≤ f.inf) (h : nv B a x = nv B (vP f z) f.L) : hxPat f a x = z := by
  have e : nv B (vP f z) f.L = (vP f z + vP f z) * 2 ^ (f.L - 1 - B).toNat := by
    unfold nv
    rw [show (f.L - B).toNat = (f.L - 1 - B).toNat + 1 by omega, Nat.pow_succ, ← Nat.two_mul]; ac_rfl
  rw [e] at h
  apply Nat.le_antisymm
  · apply le_of_steps
    intro s hs
    have h1 := (hxPat_char hf a x B hx hB s).1 hs
    apply Classical.byContradiction
    intro h2
    have h3 : vP f z + vP f z < md f s := by
      have a1 := vP_lt f s
      have a2 := vP_mono f (show z ≤ s by omega)
      unfold md; omega
    have h4 := Nat.mul_lt_mul_of_pos_right h3 (Nat.two_pow_pos (f.L - 1 - B).toNat)
    rw [h] at h1
    have h5 := h1.2
    unfold nv at h5
    omega
  · apply le_of_steps
    intro s hs
    refine (hxPat_char hf a x B hx hB s).2 ⟨by omega, .inl ?_⟩
    have h3 : md f s < vP f z + vP f z := by
      have a1 := vP_lt f s
      have a2 := vP_mono f hs
      unfold md; omega
    rw [h]
    exact Nat.mul_lt_mul_of_pos_right h3 (Nat.two_pow_pos _)
/-- near of an odd number is hxPat. -/
theorem near_char {f : Fm} (hf : f.ok) (a : Nat) (x : Int) : near f false a x = hxPat f a x := by
  have hmin : ∃ B : Int, B ≤ x ∧ B ≤ f.L - 1 := ⟨min x (f.L - 1), by omega, by omega⟩
  obtain ⟨B, h1, h2⟩ := hmin
  by_cases ha : a = 0
  · unfold near hxPat; rw [if_pos ha, if_pos (.inl ha)]
  · have e : near f false a x = rsize f a x := by unfold near; rw [if_neg ha]; rfl
    rw [e]
    apply Nat.le_antisymm
    · apply le_of_steps; intro s hs
      exact (hxPat_char hf a x B h1 h2 s).2 ((rsize_char hf a x B ha h1 h2 s).1 hs)
    · apply le_of_steps; intro s hs
      exact (rsize_char hf a x B ha h1 h2 s).2 ((hxPat_char hf a x B h1 h2 s).1 hs)
end Go.Proofs.YtooehlneoboenaaGreatDoor
