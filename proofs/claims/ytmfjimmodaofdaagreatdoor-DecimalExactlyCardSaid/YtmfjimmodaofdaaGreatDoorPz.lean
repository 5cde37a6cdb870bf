/- Plain facts: with 800 digits a pattern's number is told whole. -/
import Derived.Test.YtmfjimmodaofdaaGreatDoorPy
import Derived.Test.YtmfjimmodaofdaaGreatDoorLw
namespace Go.Proofs.YtmfjimmodaofdaaGreatDoor
open Go.RowKit

theorem ten_cube (m : Nat) : 10 ^ (3 * m) ≤ 2 ^ (10 * m) := by
  rw [Nat.pow_mul, Nat.pow_mul]; exact Nat.pow_le_pow_left (by decide) m
theorem two_cube (m : Nat) : 2 ^ (3 * m) ≤ 10 ^ m := by
  rw [Nat.pow_mul]; exact Nat.pow_le_pow_left (by decide) m
theorem pow_cmp {a b : Nat} (h : 2 ^ a < 2 ^ b) : a < b := (Nat.pow_lt_pow_iff_right (by omega)).1 h
theorem exact_mod {f : Fm} (hf : f.ok) {z : Nat} {t : Int} (ht : ufF f t ≤ 2 * vP f z * ufG t) (ht2 : t ≤ 430) : shR f z (t - 799) = 0 := by
  obtain ⟨hP, hL1, hL2, _⟩ := Fm.ok.facts hf
  have hPl : f.P ≤ 53 := by rcases hf with h | h <;> subst h <;> decide
  obtain ⟨E, hE⟩ : ∃ E, (1 - f.L).toNat = E := ⟨_, rfl⟩
  have hEb : 2 ≤ E ∧ E ≤ 1075 := by omega
  have hm := mnt_lt hP z
  have hv := vP_mnt f z
  obtain ⟨K, hK⟩ : ∃ K, (799 - t).toNat = K := ⟨_, rfl⟩
  have hKi : (K : Int) = 799 - t := by omega
  have hlt : 2 * vP f z < 2 ^ (1 + f.P + mex f z) := by
    rw [hv, Nat.pow_add, Nat.pow_add, Nat.pow_one, Nat.mul_assoc]
    exact Nat.mul_lt_mul_of_pos_left (Nat.mul_lt_mul_of_pos_right hm (Nat.two_pow_pos _)) (by omega)
  have key : E ≤ 1 + mex f z + K := by
    unfold ufF ufG at ht
    rw [hE] at ht
    by_cases hs : 0 ≤ t
    · obtain ⟨n, rfl⟩ := Int.eq_ofNat_of_zero_le hs
      rw [Int.toNat_natCast, show (-(n : Int)).toNat = 0 by omega, Nat.pow_zero, Nat.mul_one] at ht
      have h1 := Nat.mul_le_mul_right (2 ^ E) (two_cube n)
      rw [← Nat.pow_add] at h1
      have := pow_cmp (Nat.lt_of_le_of_lt h1 (Nat.lt_of_le_of_lt ht hlt))
      omega
    · obtain ⟨n, hn⟩ : ∃ n : Nat, -t = (n : Int) := ⟨(-t).toNat, by omega⟩
      rw [show t.toNat = 0 by omega, show (-t).toNat = n by omega, Nat.pow_zero, Nat.one_mul] at ht
      have hp10 := Nat.pow_pos (n := n) (show 0 < 10 by omega)
      have h1 : 2 ^ E < 2 ^ (1 + f.P + mex f z) * 10 ^ n := Nat.lt_of_le_of_lt ht (Nat.mul_lt_mul_of_pos_right hlt hp10)
      have h2 := Nat.pow_lt_pow_left h1 (show 3 ≠ 0 by omega)
      rw [Nat.mul_pow, ← Nat.pow_mul, ← Nat.pow_mul, ← Nat.pow_mul, Nat.mul_comm n 3] at h2
      have h3 := Nat.mul_le_mul_left (2 ^ ((1 + f.P + mex f z) * 3)) (ten_cube n)
      rw [← Nat.pow_add] at h3
      have := pow_cmp (Nat.lt_of_lt_of_le h2 h3)
      omega
  unfold shR ufF ufG
  rw [hE, show (t - 799).toNat = 0 by omega, show (-(t - 799)).toNat = K by omega, Nat.pow_zero, Nat.one_mul]
  obtain ⟨j, hj⟩ : ∃ j, 1 + mex f z + K = E + j := ⟨1 + mex f z + K - E, by omega⟩
  have e : 2 * vP f z * 10 ^ K = 2 ^ E * (mnt f z * 5 ^ K * 2 ^ j) := by
    rw [hv, show (10 : Nat) = 2 * 5 from rfl, Nat.mul_pow]
    have h1 : 2 ^ E * 2 ^ j = 2 * 2 ^ mex f z * 2 ^ K := by
      rw [← Nat.pow_add, ← hj, Nat.pow_add, Nat.pow_add, Nat.pow_one]
    calc 2 * (mnt f z * 2 ^ mex f z) * (2 ^ K * 5 ^ K) = (2 * 2 ^ mex f z * 2 ^ K) * (mnt f z * 5 ^ K) := by ac_rfl
      _ = _ := by rw [← h1]; ac_rfl
  rw [e]
  exact Nat.mul_mod_right _ _
theorem nr_exact {f : Fm} {z : Nat} {q : Int} (h0 : z ≠ 0) (h : shR f z q = 0) : nrN f z q * ufF f q = 2 * vP f z * ufG q := by
  obtain ⟨_, _, e, _⟩ := sh_frame f z q h0
  have hF := ufF_pos f q
  rw [h, Nat.add_zero] at e
  have hN : shN f z q = true := by
    unfold shN
    rw [h, Nat.mul_zero, cmpI_lt hF]; rfl
  unfold nrN
  rw [hN, if_pos rfl]; exact e
theorem strip0_id {D : List UInt8} (h : ∃ c l, D = c :: l ∧ c ≠ 48) : strip0 D = D := by
  obtain ⟨c, l, rfl, hc⟩ := h
  unfold strip0
  rw [List.dropWhile_cons_of_neg (by simpa using hc)]
theorem tl0_val (l : List UInt8) : dcV l = dcV (tl0 l) * 10 ^ (l.length - (tl0 l).length) := (congrArg dcV (tl0_zeros l)).trans (dcV_zeros _ _)
/-- The digits of the text to 800 digits, with its exponent, are the number. -/
theorem dg_exact {f : Fm} (hf : f.ok) {b : Nat} (h0 : b % 2 ^ f.S ≠ 0) {n : Nat} (hn8 : n = 800) {T : List UInt8} (h : DgOk f b n T) :
    ∃ (D : List UInt8) (y : Int), T = (if 2 ^ f.S ≤ b then [45] else []) ++ (ptd D ++ [101] ++ Lib.itoa y) ∧ D.all isDec = true ∧ D.length = n ∧ -440 ≤ y ∧ y ≤ 440 ∧ digS T = tl0 D ∧ (tl0 D).all isDec = true ∧ 1 ≤ (tl0 D).length ∧ (tl0 D).length ≤ n ∧ dcV (tl0 D) ≠ 0 ∧
      dcV (tl0 D) * ufF f (y - ((tl0 D).length : Int) + 1) = 2 * vP f (b % 2 ^ f.S) * ufG (y - ((tl0 D).length : Int) + 1) := by
  obtain ⟨t, h1, h2, h3, h4⟩ := h.2 h0
  have hsz := nr_size h0 h1 (n - 1)
  rw [show t - ((n - 1 : Nat) : Int) = t - (n : Int) + 1 by omega] at hsz
  have hex := nr_exact h0 (exact_mod hf h1.1 h3)
  rw [show t - 799 = t - (n : Int) + 1 by omega] at hex
  rw [show n - 1 + 1 = n by omega] at hsz
  obtain ⟨f1, f2, f3, j, f4, f5⟩ := dg_facts (by omega) hsz.1 hsz.2 t
  obtain ⟨N, hN⟩ : ∃ N, nrN f (b % 2 ^ f.S) (t - (n : Int) + 1) = N := ⟨_, rfl⟩
  rw [hN] at h4 hsz hex f1 f2 f3 f4 f5
  obtain ⟨D, hD⟩ : ∃ D, dgD N n = D := ⟨_, rfl⟩
  obtain ⟨y, hy⟩ : ∃ y, dgX N n t = y := ⟨_, rfl⟩
  have hyb : -440 ≤ y ∧ y ≤ 440 := by rw [← hy]; unfold dgX; split <;> omega
  rw [hD, hy] at h4
  rw [hD] at f1 f2 f3 f5
  rw [hy] at f4
  have hz := tl0_zeros D
  have htl := tl0_len D
  have htd : (tl0 D).all isDec = true := by rw [hz] at f2; exact (all_left f2).1
  have hval := tl0_val D
  have hN0 : N ≠ 0 := by have := Nat.pow_pos (n := n - 1) (show 0 < 10 by omega); omega
  have hd0 : dcV (tl0 D) ≠ 0 := by
    intro e
    rw [e, Nat.zero_mul] at hval
    rw [hval, Nat.zero_mul] at f5
    exact hN0 f5
  have htp : 1 ≤ (tl0 D).length := by
    refine Nat.pos_of_ne_zero fun e => hd0 ?_
    rw [List.length_eq_zero_iff.1 e]; rfl
  refine ⟨D, y, h4, f2, f1, hyb.1, hyb.2, ?_, htd, htp, by omega, hd0, ?_⟩
  · rw [h4, sci_digS (sgS_ok b (2 ^ f.S)).1 f2, strip0_id f3]
  · obtain ⟨q, hq⟩ : ∃ q : Int, t - (n : Int) + 1 = q := ⟨_, rfl⟩
    obtain ⟨i, hi⟩ : ∃ i, j + (D.length - (tl0 D).length) = i := ⟨_, rfl⟩
    have he : y - ((tl0 D).length : Int) + 1 = q + (i : Int) := by omega
    rw [he]
    rw [hq] at hex
    have hNv : N = dcV (tl0 D) * 10 ^ i := by rw [f5, hval, Nat.mul_assoc, ← Nat.pow_add, ← hi]; congr 2; omega
    have hs := uf_shift f q i
    refine Nat.eq_of_mul_eq_mul_right (ufG_pos q) ?_
    calc dcV (tl0 D) * ufF f (q + (i : Int)) * ufG q = dcV (tl0 D) * (ufF f (q + (i : Int)) * ufG q) := Nat.mul_assoc _ _ _
      _ = dcV (tl0 D) * (10 ^ i * ufF f q * ufG (q + (i : Int))) := by rw [hs]
      _ = (dcV (tl0 D) * 10 ^ i) * ufF f q * ufG (q + (i : Int)) := by ac_rfl
      _ = 2 * vP f (b % 2 ^ f.S) * ufG q * ufG (q + (i : Int)) := by rw [← hNv, hex]
      _ = _ := by ac_rfl
theorem odd_same {a b i j : Nat} (ha : a % 2 = 1) (hb : b % 2 = 1) (h : a * 2 ^ i = b * 2 ^ j) : a = b ∧ i = j := by
  have h1 := odd_le ha h
  have h2 := odd_le hb h.symm
  have e : a = b := by omega
  subst e
  refine ⟨rfl, ?_⟩
  have ha0 : 0 < a := by omega
  have := Nat.eq_of_mul_eq_mul_left ha0 h
  exact (Nat.pow_right_inj (by omega)).1 this
/-- The two sides of the law's comparison. -/
theorem exact_up {f : Fm} (hL : f.L < 0) {V m ov u ow uw op up n : Nat} {e : Int} (h : m * ufF f e = 2 * V * ufG e) (he : e = (n : Int)) (hv : ov * 2 ^ u = V) (hvo : ov % 2 = 1) (hw : ow * 2 ^ uw = m) (hwo : ow % 2 = 1) (hp : op * 2 ^ up = 10 ^ n) (hpo : op % 2 = 1) : ov = ow * op ∧ f.L + (u : Int) = (uw : Int) + (up : Int) := by
  obtain ⟨E, hE⟩ : ∃ E, (1 - f.L).toNat = E := ⟨_, rfl⟩
  unfold ufF ufG at h
  rw [hE, he, Int.toNat_natCast, show (-(n : Int)).toNat = 0 by omega, Nat.pow_zero, Nat.mul_one, ← hv, ← hw, ← hp] at h
  have h2 : (ow * op) * 2 ^ (uw + up + E) = ov * 2 ^ (u + 1) := by
    calc (ow * op) * 2 ^ (uw + up + E) = ow * 2 ^ uw * (op * 2 ^ up * 2 ^ E) := by rw [Nat.pow_add, Nat.pow_add]; ac_rfl
      _ = 2 * (ov * 2 ^ u) := h
      _ = _ := by rw [Nat.pow_succ]; ac_rfl
  obtain ⟨g1, g2⟩ := odd_same (by rw [Nat.mul_mod, hwo, hpo]) hvo h2
  exact ⟨g1.symm, by omega⟩
theorem exact_down {f : Fm} (hL : f.L < 0) {V m ov u ow uw op up n : Nat} {e : Int} (h : m * ufF f e = 2 * V * ufG e) (he : e = -(n : Int)) (hv : ov * 2 ^ u = V) (hvo : ov % 2 = 1) (hw : ow * 2 ^ uw = m) (hwo : ow % 2 = 1) (hp : op * 2 ^ up = 10 ^ n) (hpo : op % 2 = 1) : ow = ov * op ∧ (uw : Int) = f.L + (u : Int) + (up : Int) := by
  obtain ⟨E, hE⟩ : ∃ E, (1 - f.L).toNat = E := ⟨_, rfl⟩
  unfold ufF ufG at h
  rw [hE, he, show (-(n : Int)).toNat = 0 by omega, show (-(-(n : Int))).toNat = n by omega, Nat.pow_zero, Nat.one_mul, ← hv, ← hw, ← hp] at h
  have h2 : ow * 2 ^ (uw + E) = (ov * op) * 2 ^ (u + up + 1) := by
    calc ow * 2 ^ (uw + E) = ow * 2 ^ uw * 2 ^ E := by rw [Nat.pow_add]; ac_rfl
      _ = 2 * (ov * 2 ^ u) * (op * 2 ^ up) := h
      _ = _ := by rw [Nat.pow_succ, Nat.pow_add]; ac_rfl
  obtain ⟨g1, g2⟩ := odd_same hwo (by rw [Nat.mul_mod, hvo, hpo]) h2
  exact ⟨g1, by omega⟩
end Go.Proofs.YtmfjimmodaofdaaGreatDoor
