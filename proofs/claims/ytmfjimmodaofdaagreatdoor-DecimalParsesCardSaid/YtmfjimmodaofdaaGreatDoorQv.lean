/- Plain law: the reference's Round is the reader's. · Plain facts: the reference's search for the size to which a fraction rounds. No program in sight. -/
import Derived.Test.YtmfjimmodaofdaaGreatDoorTo
import Derived.Test.YtmfjimmodaofdaaGreatDoorVf
import Derived.Test.YtmfjimmodaofdaaGreatDoorPp
import Derived.Test.YtmfjimmodaofdaaGreatDoorPr
namespace Go.Proofs.YtmfjimmodaofdaaGreatDoor

/-- The greatest size whose number is at most n units. -/
def sizeN (P n : Nat) : Nat := if blen n < P then n else (blen n - P) * 2 ^ (P - 1) + n / 2 ^ (blen n - P)
theorem sizeN_vP (f : Fm) (hP : 2 ≤ f.P) (n : Nat) : vP f (sizeN f.P n) ≤ n ∧ n < vP f (sizeN f.P n + 1) := by
  by_cases h : blen n < f.P
  · have hn : n < 2 ^ (f.P - 1) := blen_le.1 (by omega)
    have e : sizeN f.P n = n := by unfold sizeN; rw [if_pos h]
    have e2 : vP f n = n := by unfold vP; rw [if_pos hn]
    have := vP_lt f n
    rw [e]; omega
  · have hn0 : n ≠ 0 := by intro e; subst e; rw [blen_zero] at h; omega
    obtain ⟨u, hu⟩ : ∃ u, blen n = u + f.P := ⟨blen n - f.P, by omega⟩
    have e : sizeN f.P n = u * 2 ^ (f.P - 1) + n / 2 ^ u := by unfold sizeN; rw [if_neg h, hu, Nat.add_sub_cancel]
    have hlo := blen_lo hn0
    have hhi := blen_hi n
    rw [hu] at hlo hhi
    have hq1 : 2 ^ (f.P - 1) ≤ n / 2 ^ u := by
      rw [Nat.le_div_iff_mul_le (Nat.two_pow_pos u), ← Nat.pow_add, show f.P - 1 + u = u + f.P - 1 by omega]; exact hlo
    have hq2 : n / 2 ^ u < 2 * 2 ^ (f.P - 1) := by
      rw [Nat.div_lt_iff_lt_mul (Nat.two_pow_pos u), ← Nat.pow_succ', ← Nat.pow_add, show (f.P - 1).succ + u = u + f.P by omega]; exact hhi
    rw [e, vP_enc f u _ (.inr hq1) (by omega), Nat.add_assoc, vP_enc f u _ (.inr (by omega)) (by omega)]
    have := Nat.div_add_mod n (2 ^ u)
    have hm := Nat.mod_lt n (Nat.two_pow_pos u)
    rw [Nat.add_mul, Nat.mul_comm (n / 2 ^ u)]
    omega
/-- Between two neighbours the midpoint tells. -/
theorem round_between {f : Fm} (hf : f.ok) (a : Nat) (x B : Int) (hB : B ≤ x) (hB2 : B ≤ f.L - 1) (s : Nat) (h1 : nv B (vP f s) f.L ≤ nv B a x) (h2 : nv B a x < nv B (vP f (s + 1)) f.L) :
    hxPat f a x = min (if nv B (md f s) (f.L - 1) < nv B a x ∨ (nv B (md f s) (f.L - 1) = nv B a x ∧ s % 2 = 1) then s + 1 else s) f.inf := by
  have key : ∀ t, t + 1 ≤ hxPat f a x ↔ t < f.inf ∧ t < (if nv B (md f s) (f.L - 1) < nv B a x ∨ (nv B (md f s) (f.L - 1) = nv B a x ∧ s % 2 = 1) then s + 1 else s) := by
    intro t
    rw [hxPat_char hf a x B hB hB2 t]
    have dbl : ∀ q, nv B q f.L = nv B (q + q) (f.L - 1) := fun q => by
      unfold nv
      rw [show (f.L - B).toNat = (f.L - 1 - B).toNat + 1 by omega, Nat.pow_succ, ← Nat.two_mul]; ac_rfl
    rw [dbl] at h1 h2
    rcases Nat.lt_trichotomy t s with h | h | h
    · have h3 : md f t < vP f s + vP f s := by
        have a1 := vP_lt f t
        have a2 := vP_mono f (show t + 1 ≤ s by omega)
        unfold md; omega
      have h4 : nv B (md f t) (f.L - 1) < nv B (vP f s + vP f s) (f.L - 1) := Nat.mul_lt_mul_of_pos_right h3 (Nat.two_pow_pos _)
      refine ⟨fun h5 => ⟨h5.1, by split <;> omega⟩, fun h5 => ⟨h5.1, .inl (by omega)⟩⟩
    · subst h
      refine ⟨fun h5 => ⟨h5.1, by rw [if_pos h5.2]; omega⟩, fun h5 => ⟨h5.1, ?_⟩⟩
      have h6 := h5.2
      split at h6
      · assumption
      · omega
    · have h3 : vP f (s + 1) + vP f (s + 1) < md f t := by
        have a1 := vP_lt f t
        have a2 := vP_mono f (show s + 1 ≤ t by omega)
        unfold md; omega
      have h4 : nv B (vP f (s + 1) + vP f (s + 1)) (f.L - 1) < nv B (md f t) (f.L - 1) := Nat.mul_lt_mul_of_pos_right h3 (Nat.two_pow_pos _)
      refine ⟨fun h5 => by omega, fun h5 => ?_⟩
      have h6 := h5.2
      split at h6 <;> omega
  apply Nat.le_antisymm
  · apply le_of_steps
    intro t ht
    have := (key t).1 ht
    omega
  · apply le_of_steps
    intro t ht
    exact (key t).2 (by omega)

/-- How a * 2^e stands to b * 2^l, as the reference tells it. -/
def cm (a b : Nat) : Int := if a < b then -1 else if a = b then 0 else 1
def hI (a : Nat) (e : Int) (b : Nat) (l : Int) : Int :=
  if (blen a : Int) + e < blen b + l then -1 else if (blen b : Int) + l < blen a + e then 1 else if l < e then cm (a * 2 ^ (e - l).toNat) b else cm a (b * 2 ^ (l - e).toNat)
theorem cm_pos (a b : Nat) : (0 < cm a b ↔ b < a) ∧ (cm a b = 0 ↔ a = b) := by
  unfold cm
  by_cases h : a < b
  · rw [if_pos h]; constructor <;> constructor <;> intro h <;> omega
  · rw [if_neg h]
    by_cases h2 : a = b
    · rw [if_pos h2]; constructor <;> constructor <;> intro h <;> omega
    · rw [if_neg h2]; constructor <;> constructor <;> intro h <;> omega
theorem nv_shift (a : Nat) (e l B : Int) (h1 : B ≤ l) (h2 : l ≤ e) : nv B a e = a * 2 ^ (e - l).toNat * 2 ^ (l - B).toNat := by
  unfold nv
  rw [Nat.mul_assoc, ← Nat.pow_add, show (e - l).toNat + (l - B).toNat = (e - B).toNat by omega]
theorem nv_low {a b : Nat} {e l B : Int} (h1 : B ≤ e) (h2 : B ≤ l) (hb : b ≠ 0) (h : (blen a : Int) + e < blen b + l) : nv B a e < nv B b l := by
  have b1 := blen_hi a
  have b2 := blen_lo hb
  have b3 := blen_pos hb
  unfold nv
  have l1 : a * 2 ^ (e - B).toNat < 2 ^ (blen a + (e - B).toNat) := by rw [Nat.pow_add]; exact Nat.mul_lt_mul_of_pos_right b1 (Nat.two_pow_pos _)
  have l2 : 2 ^ (blen b - 1 + (l - B).toNat) ≤ b * 2 ^ (l - B).toNat := by rw [Nat.pow_add]; exact Nat.mul_le_mul_right _ b2
  have l3 : 2 ^ (blen a + (e - B).toNat) ≤ 2 ^ (blen b - 1 + (l - B).toNat) := Nat.pow_le_pow_right (by omega) (by omega)
  omega
theorem hI_nv (a b : Nat) (e l B : Int) (ha : a ≠ 0) (hb : b ≠ 0) (h1 : B ≤ e) (h2 : B ≤ l) : (0 < hI a e b l ↔ nv B b l < nv B a e) ∧ (hI a e b l = 0 ↔ nv B b l = nv B a e) := by
  unfold hI
  by_cases c1 : (blen a : Int) + e < blen b + l
  · have := nv_low h1 h2 hb c1
    rw [if_pos c1]
    constructor <;> constructor <;> intro h <;> omega
  rw [if_neg c1]
  by_cases c2 : (blen b : Int) + l < blen a + e
  · have := nv_low h2 h1 ha c2
    rw [if_pos c2]
    constructor <;> constructor <;> intro h <;> omega
  rw [if_neg c2]
  by_cases c3 : l < e
  · obtain ⟨q1, q2⟩ := cm_pos (a * 2 ^ (e - l).toNat) b
    have hp := Nat.two_pow_pos (l - B).toNat
    have e1 : nv B b l = b * 2 ^ (l - B).toNat := rfl
    rw [if_pos c3, q1, q2, nv_shift a e l B h2 (by omega), e1]
    refine ⟨⟨fun h => Nat.mul_lt_mul_of_pos_right h hp, fun h => Nat.lt_of_mul_lt_mul_right h⟩, ⟨fun h => by rw [h], fun h => (Nat.eq_of_mul_eq_mul_right hp h).symm⟩⟩
  · obtain ⟨q1, q2⟩ := cm_pos a (b * 2 ^ (l - e).toNat)
    have hp := Nat.two_pow_pos (e - B).toNat
    have e1 : nv B a e = a * 2 ^ (e - B).toNat := rfl
    rw [if_neg c3, q1, q2, nv_shift b l e B h1 (by omega), e1]
    refine ⟨⟨fun h => Nat.mul_lt_mul_of_pos_right h hp, fun h => Nat.lt_of_mul_lt_mul_right h⟩, ⟨fun h => by rw [h], fun h => (Nat.eq_of_mul_eq_mul_right hp h).symm⟩⟩

/-- The reference's Round: G + P is where the numbers end. -/
def unN (L : Int) (a : Nat) (x : Int) : Nat := if L ≤ x then a * 2 ^ (x - L).toNat else a / 2 ^ (L - x).toNat
def rdN (f : Fm) (GP : Int) (a : Nat) (x : Int) : Nat :=
  if a = 0 ∨ (blen a : Int) + x < f.L then 0 else if GP < (blen a : Int) + x then f.inf else
  min (if 0 < hI a x (md f (sizeN f.P (unN f.L a x))) (f.L - 1) ∨ (hI a x (md f (sizeN f.P (unN f.L a x))) (f.L - 1) = 0 ∧ sizeN f.P (unN f.L a x) % 2 = 1) then sizeN f.P (unN f.L a x) + 1 else sizeN f.P (unN f.L a x)) f.inf
theorem unN_between (f : Fm) (a : Nat) (x B : Int) (h1 : B ≤ x) (h2 : B ≤ f.L - 1) : nv B (unN f.L a x) f.L ≤ nv B a x ∧ nv B a x < nv B (unN f.L a x + 1) f.L := by
  unfold unN
  by_cases h : f.L ≤ x
  · rw [if_pos h, nv_shift a x f.L B (by omega) h]
    have hp := Nat.two_pow_pos (f.L - B).toNat
    unfold nv
    refine ⟨Nat.le_refl _, Nat.mul_lt_mul_of_pos_right (by omega) hp⟩
  · rw [if_neg h]
    have hp := Nat.two_pow_pos (x - B).toNat
    have hq := Nat.two_pow_pos (f.L - x).toNat
    rw [nv_shift _ f.L x B h1 (by omega), nv_shift _ f.L x B h1 (by omega)]
    have e1 : nv B a x = a * 2 ^ (x - B).toNat := rfl
    rw [e1]
    have := Nat.div_add_mod a (2 ^ (f.L - x).toNat)
    have hm := Nat.mod_lt a hq
    refine ⟨Nat.mul_le_mul_right _ ?_, Nat.mul_lt_mul_of_pos_right ?_ hp⟩
    · rw [Nat.mul_comm]; omega
    · rw [Nat.add_mul, Nat.mul_comm (a / _)]; omega
theorem rdN_pat {f : Fm} (hf : f.ok) (GP : Int) (K : Nat) (hK : vP f f.inf = 2 ^ K) (hGP : GP = (K : Int) + f.L) (a : Nat) (x : Int) : rdN f GP a x = hxPat f a x := by
  obtain ⟨B, h1, h2⟩ : ∃ B : Int, B ≤ x ∧ B ≤ f.L - 1 := ⟨min x (f.L - 1), by omega, by omega⟩
  have hP := hf.facts.1
  unfold rdN
  by_cases ha : a = 0
  · rw [if_pos (.inl ha)]; unfold hxPat; rw [if_pos (.inl ha)]
  by_cases c1 : (blen a : Int) + x < f.L
  · rw [if_pos (.inr c1)]
    symm
    apply Nat.eq_zero_of_not_pos
    intro h
    have h3 := ((hxPat_char hf a x B h1 h2 0).1 h).2
    have h4 : nv B a x < nv B (md f 0) (f.L - 1) := by
      have m1 := md_pos f 0
      have m2 := blen_pos (a := md f 0) (by omega)
      exact nv_low h1 h2 (by omega) (by omega)
    omega
  rw [if_neg (fun h => h.elim ha c1)]
  by_cases c2 : GP < (blen a : Int) + x
  · rw [if_pos c2]
    apply Nat.le_antisymm
    · apply le_of_steps
      intro s hs
      refine (hxPat_char hf a x B h1 h2 s).2 ⟨hs, .inl ?_⟩
      have m1 : md f s < 2 ^ (K + 1) := by
        have a1 := vP_lt f s
        have a2 := vP_mono f hs
        rw [hK] at a2
        rw [Nat.pow_succ]
        unfold md; omega
      have m2 : blen (md f s) ≤ K + 1 := blen_le.2 m1
      exact nv_low h2 h1 ha (by omega)
    · apply le_of_steps
      intro s hs
      have := ((hxPat_char hf a x B h1 h2 s).1 hs).1
      omega
  rw [if_neg c2]
  obtain ⟨s1, s2⟩ := sizeN_vP f hP (unN f.L a x)
  obtain ⟨u1, u2⟩ := unN_between f a x B h1 h2
  generalize unN f.L a x = n at *
  generalize sizeN f.P n = s at *
  obtain ⟨q1, q2⟩ := hI_nv a (md f s) x (f.L - 1) B ha (by have := md_pos f s; omega) h1 h2
  rw [round_between hf a x B h1 h2 s (Nat.le_trans (Nat.mul_le_mul_right _ s1) u1) (Nat.lt_of_lt_of_le u2 (Nat.mul_le_mul_right _ s2))]
  simp only [q1, q2]
end Go.Proofs.YtmfjimmodaofdaaGreatDoor

namespace Go.Proofs.YtmfjimmodaofdaaGreatDoor

theorem cmpD_scale {a b k : Nat} (hk : 0 < k) : cmpD (a * k) (b * k) = cmpD a b := by
  have e1 : a * k < b * k ↔ a < b := Nat.mul_lt_mul_right hk
  have e2 : a * k = b * k ↔ a = b := ⟨fun h => Nat.eq_of_mul_eq_mul_right hk h, fun h => by rw [h]⟩
  unfold cmpD
  simp only [e1, e2]
theorem cmpD_eq {a b a' b' k l : Nat} (hk : 0 < k) (hl : 0 < l) (h1 : a * k = a' * l) (h2 : b * k = b' * l) : cmpD a b = cmpD a' b' := by
  rw [← cmpD_scale hk, h1, h2, cmpD_scale hl]
/-- A comparison at the lesser exponent, in units of 2^L. -/
theorem hold_units {m D N x : Nat} {L e : Int} (hL : L ≤ 0) (he : e = L + (x : Int)) : cmpD (m * D * 2 ^ (e - min e 0).toNat) (N * 2 ^ (0 - min e 0).toNat) = cmpD (m * 2 ^ x * D) (N * 2 ^ (-L).toNat) := by
  have hp := Nat.two_pow_pos (min e 0 - L).toNat
  refine cmpD_eq hp (show 0 < 1 by omega) ?_ ?_
  · rw [Nat.mul_assoc, ← Nat.pow_add, show (e - min e 0).toNat + (min e 0 - L).toNat = x by omega]; ac_rfl
  · rw [Nat.mul_assoc, ← Nat.pow_add, show (0 - min e 0).toNat + (min e 0 - L).toNat = (-L).toNat by omega]; omega
/-- Where the bits tell it. -/
theorem ordD_low {a b : Nat} {e : Int} (hb : b ≠ 0) (h : (blen a : Int) + e < blen b) : cmpD (a * 2 ^ (e - min e 0).toNat) (b * 2 ^ (0 - min e 0).toNat) = -1 := by
  have := nv_low (a := a) (b := b) (e := e) (l := 0) (B := min e 0) (by omega) (by omega) hb (by omega)
  unfold nv at this
  unfold cmpD; rw [if_pos this]
theorem ordD_high {a b : Nat} {e : Int} (ha : a ≠ 0) (h : (blen b : Int) < blen a + e) : cmpD (a * 2 ^ (e - min e 0).toNat) (b * 2 ^ (0 - min e 0).toNat) = 1 := by
  have := nv_low (a := b) (b := a) (e := 0) (l := e) (B := min e 0) (by omega) (by omega) ha (by omega)
  unfold nv at this
  unfold cmpD; rw [if_neg (by omega), if_neg (by omega)]
/-- What is found: the greatest size at most the number; then the midpoint decides. -/
def szUp (f : Fm) (N D lo : Nat) : Nat := lo + if cmpD (md f lo * D) (N * 2 ^ (1 - f.L).toNat) < 0 ∨ (cmpD (md f lo * D) (N * 2 ^ (1 - f.L).toNat) = 0 ∧ lo % 2 = 1) then 1 else 0
theorem size_pat {f : Fm} (hL : f.L ≤ 0) {N D lo : Nat} (hD : 0 < D) (h1 : vP f lo * D ≤ N * 2 ^ (-f.L).toNat) (h2 : lo ≤ f.inf) (h3 : lo < f.inf → N * 2 ^ (-f.L).toNat < vP f (lo + 1) * D) :
    IsPat f N D (if lo = f.inf then f.inf else szUp f N D lo) := by
  have e2 : N * 2 ^ (1 - f.L).toNat = 2 * (N * 2 ^ (-f.L).toNat) := by
    rw [show (1 - f.L).toNat = (-f.L).toNat + 1 by omega, Nat.pow_succ]; ac_rfl
  intro s
  unfold szUp
  rw [e2]
  obtain ⟨M, hM⟩ : ∃ M, N * 2 ^ (-f.L).toNat = M := ⟨_, rfl⟩
  rw [hM] at h1 h3 ⊢
  have low : s < lo → md f s * D < 2 * M := fun h => by
    have g1 := vP_lt f s
    have g2 := vP_mono f (show s + 1 ≤ lo by omega)
    have g3 : md f s + 1 ≤ 2 * vP f lo := by unfold md; omega
    have g4 := Nat.mul_le_mul_right D g3
    rw [Nat.add_mul, Nat.one_mul, Nat.mul_assoc] at g4
    omega
  by_cases hi : lo = f.inf
  · rw [if_pos hi]
    constructor
    · intro h; exact ⟨by omega, .inl (low (by omega))⟩
    · rintro ⟨h, _⟩; omega
  · rw [if_neg hi]
    have h3 := h3 (by omega)
    by_cases c1 : s < lo
    · constructor
      · intro _; exact ⟨by omega, .inl (low c1)⟩
      · intro _; omega
    by_cases c2 : s = lo
    · subst c2
      unfold cmpD
      by_cases d1 : md f s * D < 2 * M
      · rw [if_pos d1]; constructor
        · intro _; exact ⟨by omega, .inl d1⟩
        · intro _; simp
      · rw [if_neg d1]
        by_cases d2 : md f s * D = 2 * M
        · rw [if_pos d2]
          by_cases d3 : s % 2 = 1
          · rw [if_pos (.inr ⟨rfl, d3⟩)]; constructor
            · intro _; exact ⟨by omega, .inr ⟨d2, d3⟩⟩
            · intro _; omega
          · rw [if_neg (by simp [d3])]; constructor
            · intro h; omega
            · rintro ⟨_, h | h⟩
              · omega
              · exact absurd h.2 d3
        · rw [if_neg d2, if_neg (by simp)]; constructor
          · intro h; omega
          · rintro ⟨_, h | h⟩
            · omega
            · exact absurd h.1 d2
    · constructor
      · intro h; split at h <;> omega
      · rintro ⟨_, h⟩
        exfalso
        have g1 := vP_lt f s
        have g2 := vP_mono f (show lo + 1 ≤ s by omega)
        have g3 : 2 * vP f (lo + 1) ≤ md f s := by unfold md; omega
        have g4 := Nat.mul_le_mul_right D g3
        rw [Nat.mul_assoc] at g4
        omega
end Go.Proofs.YtmfjimmodaofdaaGreatDoor
