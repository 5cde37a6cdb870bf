/- Plain law: the reference's Round is the reader's. · Plain facts: the reference's search for the size to which a fraction rounds. No program in sight. -/
import Derived.Test.YtmfjimmodaofdaaGreatDoorTo
import Derived.Test.YtmfjimmodaofdaaGreatDoorVf
import Derived.Test.YtmfjimmodaofdaaGreatDoorPp
import Derived.Test.YtmfjimmodaofdaaGreatDoorPr
namespace Go.Proofs.YtmfjimmodaofdaaGreatDoor

/-- How a * 2^e stands to b * 2^l, as the reference tells it. -/
def cm (a b : Nat) : Int := if a < b then -1 else if a = b then 0 else 1
def hI (a : Nat) (e : Int) (b : Nat) (l : Int) : Int :=
  if (blen a : Int) + e < blen b + l then -1 else if (blen b : Int) + l < blen a + e then 1 else if l < e then cm (a * 2 ^ (e - l).toNat) b else cm a (b * 2 ^ (l - e).toNat)
theorem nv_low {a b : Nat} {e l B : Int} (h1 : B ≤ e) (h2 : B ≤ l) (hb : b ≠ 0) (h : (blen a : Int) + e < blen b + l) : nv B a e < nv B b l := by
  have b1 := blen_hi a
  have b2 := blen_lo hb
  have b3 := blen_pos hb
  unfold nv
  have l1 : a * 2 ^ (e - B).toNat < 2 ^ (blen a + (e - B).toNat) := by rw [Nat.pow_add]; exact Nat.mul_lt_mul_of_pos_right b1 (Nat.two_pow_pos _)
  have l2 : 2 ^ (blen b - 1 + (l - B).toNat) ≤ b * 2 ^ (l - B).toNat := by rw [Nat.pow_add]; exact Nat.mul_le_mul_right _ b2
  have l3 : 2 ^ (blen a + (e - B).toNat) ≤ 2 ^ (blen b - 1 + (l - B).toNat) := Nat.pow_le_pow_right (by omega) (by omega)
  omega
end Go.Proofs.YtmfjimmodaofdaaGreatDoor

namespace Go.Proofs.YtmfjimmodaofdaaGreatDoor

theorem cmpD_scale {a b k : Nat} (hk : 0 < k) : cmpD (a * k) (b * k) = cmpD a b := by
  have e1 : a * k < b * k ↔ a < b := Nat.mul_lt_mul_right hk
  have e2 : a * k = b * k ↔ a = b := ⟨fun h => Nat.eq_of_mul_eq_mul_right hk h, fun h => by rw [h]⟩
  unfold cmpD
  simp only [e1, e2]
theorem cmpD_eq {a b a' b' k l : Nat} (hk : 0 < k) (hl : 0 < l) (h1 : a * k = a' * l) (h2 : b * k = b' * l) : cmpD a b = cmpD a' b' := by
  rw [← cmpD_scale hk, h1, h2, cmpD_scale hl]
/-- A comparison at the lesser exponent, in units of 2^L. -/
theorem hold_units {m D N x : Nat} {L e : Int} (hL : L ≤ 0) (he : e = L + (x : Int)) : cmpD (m * D * 2 ^ (e - min e 0).toNat) (N * 2 ^ (0 - min e 0).toNat) = cmpD (m * 2 ^ x * D) (N * 2 ^ (-L).toNat) := by
  have hp := Nat.two_pow_pos (min e 0 - L).toNat
  refine cmpD_eq hp (show 0 < 1 by omega) ?_ ?_
  · rw [Nat.mul_assoc, ← Nat.pow_add, show (e - min e 0).toNat + (min e 0 - L).toNat = x by omega]; ac_rfl
  · rw [Nat.mul_assoc, ← Nat.pow_add, show (0 - min e 0).toNat + (min e 0 - L).toNat = (-L).toNat by omega]; omega
/-- Where the bits tell it. -/
theorem ordD_low {a b : Nat} {e : Int} (hb : b ≠ 0) (h : (blen a : Int) + e < blen b) : cmpD (a * 2 ^ (e - min e 0).toNat) (b * 2 ^ (0 - min e 0).toNat) = -1 := by
  have := nv_low (a := a) (b := b) (e := e) (l := 0) (B := min e 0) (by omega) (by omega) hb (by omega)
  unfold nv at this
  unfold cmpD; rw [if_pos this]
theorem ordD_high {a b : Nat} {e : Int} (ha : a ≠ 0) (h : (blen b : Int) < blen a + e) : cmpD (a * 2 ^ (e - min e 0).toNat) (b * 2 ^ (0 - min e 0).toNat) = 1 := by
  have := nv_low (a := b) (b := a) (e := 0) (l := e) (B := min e 0) (by omega) (by omega) ha (by omega)
  unfold nv at this
  unfold cmpD; rw [if_neg (by omega), if_neg (by omega)]
/-- What is found: the greatest size at most the number; then the midpoint decides. -/
def szUp (f : Fm) (N D lo : Nat) : Nat := lo + if cmpD (md f lo * D) (N * 2 ^ (1 - f.L).toNat) < 0 ∨ (cmpD (md f lo * D) (N * 2 ^ (1 - f.L).toNat) = 0 ∧ lo % 2 = 1) then 1 else 0
theorem size_pat {f : Fm} (hL : f.L ≤ 0) {N D lo : Nat} (hD : 0 < D) (h1 : vP f lo * D ≤ N * 2 ^ (-f.L).toNat) (h2 : lo ≤ f.inf) (h3 : lo < f.inf → N * 2 ^ (-f.L).toNat < vP f (lo + 1) * D) :
    IsPat f N D (if lo = f.inf then f.inf else szUp f N D lo) := by
  have e2 : N * 2 ^ (1 - f.L).toNat = 2 * (N * 2 ^ (-f.L).toNat) := by
    rw [show (1 - f.L).toNat = (-f.L).toNat + 1 by omega, Nat.pow_succ]; ac_rfl
  intro s
  unfold szUp
  rw [e2]
  obtain ⟨M, hM⟩ : ∃ M, N * 2 ^ (-f.L).toNat = M := ⟨_, rfl⟩
  rw [hM] at h1 h3 ⊢
  have low : s < lo → md f s * D < 2 * M := fun h => by
    have g1 := vP_lt f s
    have g2 := vP_mono f (show s + 1 ≤ lo by omega)
    have g3 : md f s + 1 ≤ 2 * vP f lo := by unfold md; omega
    have g4 := Nat.mul_le_mul_right D g3
    rw [Nat.add_mul, Nat.one_mul, Nat.mul_assoc] at g4
    omega
  by_cases hi : lo = f.inf
  · rw [if_pos hi]
    constructor
    · intro h; exact ⟨by omega, .inl (low (by omega))⟩
    · rintro ⟨h, _⟩; omega
  · rw [if_neg hi]
    have h3 := h3 (by omega)
    by_cases c1 : s < lo
    · constructor
      · intro _; exact ⟨by omega, .inl (low c1)⟩
      · intro _; omega
    by_cases c2 : s = lo
    · subst c2
      unfold cmpD
      by_cases d1 : md f s * D < 2 * M
      · rw [if_pos d1]; constructor
        · intro _; exact ⟨by omega, .inl d1⟩
        · intro _; simp
      · rw [if_neg d1]
        by_cases d2 : md f s * D = 2 * M
        · rw [if_pos d2]
          by_cases d3 : s % 2 = 1
          · rw [if_pos (.inr ⟨rfl, d3⟩)]; constructor
            · intro _; exact ⟨by omega, .inr ⟨d2, d3⟩⟩
            · intro _; omega
          · rw [if_neg (by simp [d3])]; constructor
            · intro h; omega
            · rintro ⟨_, h | h⟩
              · omega
              · exact absurd h.2 d3
        · rw [if_neg d2, if_neg (by simp)]; constructor
          · intro h; omega
          · rintro ⟨_, h | h⟩
            · omega
            · exact absurd h.1 d2
    · constructor
      · intro h; split at h <;> omega
      · rintro ⟨_, h⟩
        exfalso
        have g1 := vP_lt f s
        have g2 := vP_mono f (show lo + 1 ≤ s by omega)
        have g3 : 2 * vP f (lo + 1) ≤ md f s := by unfold md; omega
        have g4 := Nat.mul_le_mul_right D g3
        rw [Nat.mul_assoc] at g4
        omega
end Go.Proofs.YtmfjimmodaofdaaGreatDoor
