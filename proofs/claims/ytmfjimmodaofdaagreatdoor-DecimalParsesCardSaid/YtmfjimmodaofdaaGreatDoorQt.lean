/- The law Back, plain: what Print answers is read back. -/
import Derived.Test.YtmfjimmodaofdaaGreatDoorTs
import Derived.Test.YtmfjimmodaofdaaGreatDoorEp
namespace Go.Proofs.YtmfjimmodaofdaaGreatDoor
open Go.RowKit

theorem pat_cut (f : Fm) {b : Nat} (hb : b < 2 ^ (f.S + 1)) : sgn f (decide (2 ^ f.S ≤ b)) (b % 2 ^ f.S) = b := by
  rw [Nat.pow_succ] at hb
  unfold sgn
  by_cases h : 2 ^ f.S ≤ b
  · rw [decide_eq_true h, if_pos rfl, Nat.mod_eq_sub_mod h, Nat.mod_eq_of_lt (by omega)]; omega
  · rw [decide_eq_false h, if_neg (by decide), Nat.mod_eq_of_lt (by omega)]
theorem pat_none {f : Fm} {D p : Nat} (hD : 0 < D) (h : IsPat f 0 D p) : p = 0 := by
  cases p with
  | zero => rfl
  | succ p =>
    have := ((h p).1 (Nat.le_refl _)).2
    have h1 := Nat.mul_pos (md_pos f p) hD
    rw [Nat.zero_mul] at this
    rcases this with h | h
    · omega
    · omega
theorem sgS_ok (b M : Nat) : sgOk (if M ≤ b then [45] else []) ∧ decide ((if M ≤ b then [45] else [] : List UInt8) = [45]) = decide (M ≤ b) := by
  by_cases h : M ≤ b
  · rw [if_pos h, decide_eq_true h]; exact ⟨.inr (.inr rfl), by decide⟩
  · rw [if_neg h, decide_eq_false h]; exact ⟨.inl rfl, by decide⟩
theorem layS_pos (D : List UInt8) (q : Int) (h : 1 ≤ D.length) : 1 ≤ (layS D q).length := by
  unfold layS
  split
  · rw [List.length_append]; omega
  · split
    · simp only [List.length_append, List.length_cons, List.length_nil]; omega
    · split
      · simp only [List.length_append, List.length_cons, List.length_nil]; omega
      · simp only [List.length_append, List.length_cons, List.length_nil]; omega
theorem back_plain {f : Fm} {b : Nat} (hb : b < 2 ^ (f.S + 1)) {T : List UInt8} (hT : PrOk f b T) {v : Nat} {k : Int} (h : ParOk f (bs T) v k) :
    k = 0 ∧ T ≠ [] ∧ (f.inf < b % 2 ^ f.S → v = f.quiet ∧ T = [110, 97, 110]) ∧ (b % 2 ^ f.S ≤ f.inf → v = b) := by
  obtain ⟨t1, t2, t3, t4⟩ := hT
  have hc := pat_cut f hb
  obtain ⟨s1, s2⟩ := sgS_ok b (2 ^ f.S)
  by_cases c1 : f.inf < b % 2 ^ f.S
  · have e := t1 c1
    subst e
    unfold ParOk at h
    rw [if_neg (by decide), show tokOf (bs [110, 97, 110]) = some (0, false, 0, 0) from by decide] at h
    obtain ⟨h1, h2⟩ := h
    unfold TokP at h1
    rw [if_pos rfl] at h1
    exact ⟨h2, by simp, fun _ => ⟨h1, rfl⟩, fun h => by omega⟩
  by_cases c2 : b % 2 ^ f.S = f.inf
  · have e := t2 c2
    have ht : tokOf (bs T) = some (1, decide (2 ^ f.S ≤ b), 0, 0) := by
      rw [e]
      by_cases h : 2 ^ f.S ≤ b
      · rw [if_pos h, decide_eq_true h]; decide
      · rw [if_neg h, decide_eq_false h]; decide
    have hl : ¬ 4000 < (bs T).size := by
      rw [bs_size, e, List.length_append]
      have : (if 2 ^ f.S ≤ b then [45] else [] : List UInt8).length ≤ 1 := by split <;> simp
      simp
      omega
    unfold ParOk at h
    rw [if_neg hl, ht] at h
    obtain ⟨h1, h2⟩ := h
    unfold TokP at h1
    rw [if_neg (by decide), if_pos rfl, ← c2, hc] at h1
    exact ⟨h2, by rw [e]; simp, fun h => by omega, fun _ => h1⟩
  by_cases c3 : b % 2 ^ f.S = 0
  · have e := t3 c3
    rw [e] at h
    obtain ⟨h1, p, h2, h3, h4⟩ := par_form (pt := none) (ex := none) (W := [48]) h (by simp [ptT, exT]) s1 (by decide) rfl (by simp) trivial (by have := s1; rcases this with e | e | e <;> rw [e] <;> simp)
    have e0 : tn (dcV ([48] ++ ptD none)) (exV none - ((ptD none).length : Int)) = 0 := by decide
    rw [e0] at h2
    have := pat_none (td_pos _) h2
    subst this
    rw [s2, ← c3, hc] at h4
    exact ⟨h1, by rw [e]; simp, fun h => by omega, fun _ => h4⟩
  obtain ⟨d, q, ⟨k1, k2⟩, e⟩ := t4 c3 (by omega)
  have hd0 := sh_pos k1
  obtain ⟨D, hD⟩ : ∃ D, Lib.decDigits d = D := ⟨_, rfl⟩
  have ht0 := tl0_some hd0
  have hDl := decDigits_len k2.1 (by omega)
  have hDv := (dcV_digits d).1
  have hDd := digs_dec d
  rw [hD] at e ht0 hDl hDv hDd
  have htl := tl0_len D
  have hz := tl0_zeros D
  obtain ⟨q', hq'⟩ : ∃ q' : Int, q + (D.length : Int) - ((tl0 D).length : Int) = q' := ⟨_, rfl⟩
  rw [hq'] at e
  have htd : (tl0 D).all isDec = true := by rw [hz] at hDd; exact (all_left hDd).1
  rw [e] at h
  obtain ⟨h1, p, h2, h3, h4⟩ := lay_form h s1 htd ht0 (by omega) (by omega) (by omega)
  have hval : d = dcV (tl0 D) * 10 ^ (D.length - (tl0 D).length) := hDv.symm.trans ((congrArg dcV hz).trans (dcV_zeros _ _))
  have hp := (pat_same (x := q) (x' := q') (D.length - (tl0 D).length) (by omega) hval).2 h2
  obtain ⟨t, n, _, _, _, _, hsd, _⟩ := k1
  have := (sh_pat c3 (by omega) hsd).unique hp
  subst this
  rw [s2, hc] at h4
  refine ⟨h1, ?_, fun h => by omega, fun _ => h4⟩
  rw [e]
  intro e0
  have hz0 : (layS (tl0 D) q').length = 0 := by
    have := congrArg List.length e0
    rw [List.length_append, List.length_nil] at this
    omega
  have := layS_pos (tl0 D) q' ht0
  omega
/-- A size's class. -/
def clsF (f : Fm) (z : Nat) : Nat := clsN (2 ^ (f.P - 1)) f.inf z
theorem inf_hidden {f : Fm} (hf : f.ok) : 2 ^ (f.P - 1) ≤ f.inf := by rcases hf with h | h <;> subst h <;> decide
theorem cls_nan {f : Fm} (hf : f.ok) (z : Nat) : clsF f z = 4 ↔ f.inf < z := by
  have hp := inf_hidden hf
  have h0 := Nat.two_pow_pos (f.P - 1)
  unfold clsF clsN
  generalize 2 ^ (f.P - 1) = hi at *
  split
  · omega
  · split
    · omega
    · split
      · omega
      · split <;> omega
theorem cls_fin {f : Fm} (hf : f.ok) (z : Nat) : (clsF f z = 1 ∨ clsF f z = 2) ↔ z ≠ 0 ∧ z < f.inf := by
  have hp := inf_hidden hf
  have h0 := Nat.two_pow_pos (f.P - 1)
  unfold clsF clsN
  generalize 2 ^ (f.P - 1) = hi at *
  split
  · omega
  · split
    · omega
    · split
      · omega
      · split <;> omega
theorem cls_cases (f : Fm) (z : Nat) : clsF f z = 0 ∨ clsF f z = 1 ∨ clsF f z = 2 ∨ clsF f z = 3 ∨ clsF f z = 4 := by
  unfold clsF clsN
  split
  · simp
  · split
    · simp
    · split
      · simp
      · split <;> simp
theorem cls_inf {f : Fm} (hf : f.ok) (z : Nat) : (clsF f z = 3 ∨ clsF f z = 4) ↔ f.inf ≤ z := by
  have hp := inf_hidden hf
  have h0 := Nat.two_pow_pos (f.P - 1)
  unfold clsF clsN
  generalize 2 ^ (f.P - 1) = hi at *
  split
  · omega
  · split
    · omega
    · split
      · omega
      · split <;> omega

theorem prOk_len {f : Fm} {b : Nat} {T : List UInt8} (h : PrOk f b T) : (bs T).size ≤ 9223372036854775807 := by
  obtain ⟨t1, t2, t3, t4⟩ := h
  have hs : (if 2 ^ f.S ≤ b then [45] else [] : List UInt8).length ≤ 1 := by split <;> simp
  by_cases c1 : f.inf < b % 2 ^ f.S
  · rw [t1 c1]; decide
  by_cases c2 : b % 2 ^ f.S = f.inf
  · rw [t2 c2, bs_size, List.length_append, List.length_cons, List.length_cons, List.length_cons, List.length_nil]; omega
  by_cases c3 : b % 2 ^ f.S = 0
  · rw [t3 c3, bs_size, List.length_append, List.length_cons, List.length_nil]; omega
  obtain ⟨d, q, ⟨k1, k2⟩, e⟩ := t4 c3 (by omega)
  have := lay_size k2
  rw [bs_size] at this
  rw [e, bs_size, List.length_append]
  omega
/-- The pattern that a law takes: the word, or its lower half. -/
def pB (d : Bool) (b : Nat) : Nat := if d then b % 4294967296 else b
theorem pB_lt (d : Bool) {b : Nat} (hb : b < 18446744073709551616) : pB d b < 2 ^ ((fmB d).S + 1) := by
  cases d
  · exact hb
  · exact Nat.mod_lt _ (by decide)
/-- A digit's byte. -/
def dgC (u : Nat) : UInt8 := UInt8.ofNat (48 + u)
theorem dgC_val (x : Nat) : (((dgC (x % 10)).toNat : Nat) : Int) = 48 + (x : Int) % 10 := by
  have hd := (digit_byte (u := x % 10) (Nat.mod_lt _ (by omega))).2.2
  unfold dgC
  rw [hd]; omega
theorem digs_step {x : Nat} (h : ¬ x < 10) : Lib.decDigits x = Lib.decDigits (x / 10) ++ [dgC (x % 10)] := by rw [Lib.decDigits, dif_neg h]; rfl
theorem digs_last {x : Nat} (h : x < 10) : Lib.decDigits x = [dgC (x % 10)] := by rw [Lib.decDigits_one h, Nat.mod_eq_of_lt h]; rfl
/-- What is still to be told of n, and what is told: L. -/
def telling (n x : Nat) (L : List UInt8) : Prop := (if x = 0 then L else Lib.decDigits x ++ L) = Lib.decDigits n
theorem telling_next {n x : Nat} {L : List UInt8} (h : telling n x L) (hx : x ≠ 0) : telling n (x / 10) ([dgC (x % 10)] ++ L) := by
  unfold telling at h ⊢
  rw [if_neg hx] at h
  by_cases h1 : x < 10
  · rw [if_pos (by omega), ← h, digs_last h1]
  · rw [if_neg (by omega), ← h, digs_step h1, List.append_assoc]
end Go.Proofs.YtmfjimmodaofdaaGreatDoor
