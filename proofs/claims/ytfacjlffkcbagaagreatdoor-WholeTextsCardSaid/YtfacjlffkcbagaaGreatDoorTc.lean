/- Plain law: texts of numbers, those that Print writes among them; Join's number. -/
import Derived.Test.YtfacjlffkcbagaaGreatDoorTo
import Derived.Test.YtfacjlffkcbagaaGreatDoorTb
import Derived.Test.YtfacjlffkcbagaaGreatDoorHj
namespace Go.Proofs.YtfacjlffkcbagaaGreatDoor

theorem text_plain (f : Fm) (sg0 A : List UInt8) (x p : UInt8) (y : Int) (h0 : sg0 = [] ∨ sg0 = [45] ∨ sg0 = [43]) (hx : x = 120 ∨ x = 88) (hp : p = 112 ∨ p = 80) (hA : ∀ c ∈ A, isHex c = true) (hne : A ≠ []) (h1 : -1000000000000 ≤ y) (h2 : y ≤ 1000000000000) :
    parseOf f (bs (sg0 ++ ([48, x] ++ A ++ (p :: Lib.itoa y)))) = some (sgn f (decide (sg0 = [45])) (hxPat f (hexN A) y)) := by
  obtain ⟨sg, D, he, hE, hv⟩ := itoa_exp y h1 h2
  have hn := numOf_plain sg0 A sg D x p hx hp hE hA hne
  rw [hv] at hn
  have e : (sg0 ++ [48, x]) ++ A ++ (p :: (sg ++ D)) = sg0 ++ ([48, x] ++ A ++ (p :: Lib.itoa y)) := by rw [he]; simp
  rw [e] at hn
  exact parse_num f sg0 _ _ _ h0 ⟨x :: (A ++ (p :: Lib.itoa y)), by simp⟩ hn
theorem text_point (f : Fm) (sg0 A F : List UInt8) (x p : UInt8) (y : Int) (h0 : sg0 = [] ∨ sg0 = [45] ∨ sg0 = [43]) (hx : x = 120 ∨ x = 88) (hp : p = 112 ∨ p = 80) (hA : ∀ c ∈ A, isHex c = true) (hF : ∀ c ∈ F, isHex c = true) (hne : A ++ F ≠ []) (h1 : -1000000000000 ≤ y) (h2 : y ≤ 1000000000000) :
    parseOf f (bs (sg0 ++ ([48, x] ++ (A ++ 46 :: F) ++ (p :: Lib.itoa y)))) = some (sgn f (decide (sg0 = [45])) (hxPat f (hexN (A ++ F)) (y - 4 * F.length))) := by
  obtain ⟨sg, D, he, hE, hv⟩ := itoa_exp y h1 h2
  have hn := numOf_point sg0 A F sg D x p hx hp hE hA hF hne
  rw [hv] at hn
  have e : (sg0 ++ [48, x]) ++ (A ++ 46 :: F) ++ (p :: (sg ++ D)) = sg0 ++ ([48, x] ++ (A ++ 46 :: F) ++ (p :: Lib.itoa y)) := by rw [he]; simp
  rw [e] at hn
  exact parse_num f sg0 _ _ _ h0 ⟨x :: ((A ++ 46 :: F) ++ (p :: Lib.itoa y)), by simp⟩ hn

/-- The fraction's digits. -/
theorem digs_val (k r : Nat) (hk : k ≤ 16) (hr : r < 2 ^ 64) (hd : 2 ^ 64 ∣ r * 16 ^ k) :
    (digs k r).length ≤ k ∧ hexN (digs k r) * 16 ^ (16 - (digs k r).length) = r ∧ ∀ c ∈ digs k r, isHex c = true := by
  induction k generalizing r with
  | zero =>
    rw [Nat.pow_zero, Nat.mul_one] at hd
    have : r = 0 := by obtain ⟨q, hq⟩ := hd; omega
    subst this
    exact ⟨Nat.le_refl _, by simp [digs, hexN], fun c h => by simp [digs] at h⟩
  | succ k ih =>
    unfold digs
    by_cases h0 : r = 0
    · rw [if_pos h0, h0]
      exact ⟨Nat.zero_le _, by simp [hexN], fun c h => by simp at h⟩
    · rw [if_neg h0]
      have hr' : r * 16 % 2 ^ 64 < 2 ^ 64 := Nat.mod_lt _ (by omega)
      have e16 : r * 16 % 2 ^ 64 = 16 * (r % 2 ^ 60) := by omega
      have hd' : 2 ^ 64 ∣ r * 16 % 2 ^ 64 * 16 ^ k := by
        have h1 : 2 ^ 64 ∣ r * 16 * 16 ^ k := by rw [show 16 ^ (k + 1) = 16 * 16 ^ k from Nat.pow_succ', ← Nat.mul_assoc] at hd; exact hd
        have h2 : r * 16 * 16 ^ k = (2 ^ 64 * (r * 16 / 2 ^ 64) + r * 16 % 2 ^ 64) * 16 ^ k := by rw [Nat.div_add_mod]
        rw [h2, Nat.add_mul, Nat.mul_assoc] at h1
        exact (Nat.dvd_add_right (Nat.dvd_mul_right _ _)).1 h1
      obtain ⟨i1, i2, i3⟩ := ih (r * 16 % 2 ^ 64) (by omega) hr' hd'
      have hq : r / 2 ^ 60 < 16 := by omega
      have hdg := hxDig_val ⟨r / 2 ^ 60, hq⟩
      refine ⟨by rw [List.length_cons]; omega, ?_, fun c hc => ?_⟩
      · rw [hexN_cons, List.length_cons]
        have e1 : hexV (hxDig (r / 2 ^ 60)) = r / 2 ^ 60 := hdg.1
        rw [e1]
        generalize (digs k (r * 16 % 2 ^ 64)).length = l at *
        generalize hexN (digs k (r * 16 % 2 ^ 64)) = n at *
        have e2 : 16 - l = (16 - (l + 1)) + 1 := by omega
        rw [e2, Nat.pow_succ, ← Nat.mul_assoc, e16] at i2
        have i3 : n * 16 ^ (16 - (l + 1)) = r % 2 ^ 60 := by omega
        rw [Nat.add_mul, i3, Nat.mul_assoc, ← Nat.pow_add, show l + (16 - (l + 1)) = 15 by omega]
        have h15 : (16 : Nat) ^ 15 = 2 ^ 60 := by decide
        rw [h15]; omega
      · rcases List.mem_cons.1 hc with hc | hc
        · rw [hc]; exact hdg.2
        · exact i3 c hc
/-- What Print writes of a number is read as that number, in whatever format. -/
theorem print_means {f : Fm} (hf : f.ok) (neg : Bool) (m : Nat) (e : Int) (hm : m ≠ 0) (hb : blen m ≤ 64) (h1 : -100000 ≤ e) (h2 : e ≤ 100000) :
    parseOf f (bs (prN neg (digs 16 (fracOf m)) (e + ((blen m - 1 : Nat) : Int)))) = some (sgn f neg (hxPat f m e)) := by
  have hb1 := blen_pos hm
  have hlo := blen_lo hm
  have hhi := blen_hi m
  obtain ⟨n, hn⟩ : ∃ n, blen m = n + 1 := ⟨blen m - 1, by omega⟩
  rw [hn] at hlo hhi hb
  rw [Nat.add_sub_cancel] at hlo
  -- the fraction
  have hfr : 2 ^ 64 + fracOf m = m * 2 ^ (64 - n) := by
    unfold fracOf
    rw [hn, Nat.add_sub_cancel]
    have e1 : 2 ^ (64 - n) = 2 * 2 ^ (63 - n) := by rw [← Nat.pow_succ']; congr 1; omega
    have e2 : 2 ^ n * 2 ^ (63 - n) = 2 ^ 63 := by rw [← Nat.pow_add]; congr 1; omega
    have e3 : 2 ^ (n + 1) * 2 ^ (63 - n) = 2 ^ 64 := by rw [← Nat.pow_add]; congr 1; omega
    have l1 := Nat.mul_le_mul_right (2 ^ (63 - n)) hlo
    have l2 := Nat.mul_lt_mul_of_pos_right hhi (Nat.two_pow_pos (63 - n))
    rw [e2] at l1
    rw [e3] at l2
    rw [e1, Nat.mul_left_comm]
    generalize m * 2 ^ (63 - n) = y at *
    omega
  have hfl : fracOf m < 2 ^ 64 := Nat.mod_lt _ (by omega)
  obtain ⟨d1, d2, d3⟩ := digs_val 16 (fracOf m) (Nat.le_refl _) hfl ⟨fracOf m, by rw [Nat.mul_comm, show (16 : Nat) ^ 16 = 2 ^ 64 by decide]⟩
  rw [hn, Nat.add_sub_cancel]
  generalize digs 16 (fracOf m) = ds at *
  generalize hr : fracOf m = r at *
  -- the exponent's text
  obtain ⟨t, ht⟩ : ∃ t : Int, e + (n : Int) = t := ⟨_, rfl⟩
  rw [ht]
  have hX : ∃ sg D, [if t < 0 then (45 : UInt8) else 43] ++ Lib.itoa (if t < 0 then -t else t) = sg ++ D ∧ ExpText sg D ∧ expN sg D = t := by
    have hfar : far = 1099511627776 := rfl
    by_cases h : t < 0
    · obtain ⟨a1, a2⟩ := decDigits_dec (-t).toNat
      refine ⟨[45], Lib.decDigits (-t).toNat, ?_, ⟨.inr (.inl rfl), a2, a1⟩, ?_⟩
      · rw [if_pos h, if_pos h]; unfold Lib.itoa; rw [if_neg (by omega)]
      · unfold expN; rw [if_pos rfl, decS_digits _ (by omega)]; omega
    · obtain ⟨a1, a2⟩ := decDigits_dec t.toNat
      refine ⟨[43], Lib.decDigits t.toNat, ?_, ⟨.inr (.inr rfl), a2, a1⟩, ?_⟩
      · rw [if_neg h, if_neg h]; unfold Lib.itoa; rw [if_neg (by omega)]
      · unfold expN; rw [if_neg (by decide), decS_digits _ (by omega)]; omega
  obtain ⟨sg, D, hXe, hE, hXv⟩ := hX
  obtain ⟨sg0, hsg0⟩ : ∃ sg0 : List UInt8, (if neg then [45] else []) = sg0 := ⟨_, rfl⟩
  have h0 : sg0 = [] ∨ sg0 = [45] ∨ sg0 = [43] := by rw [← hsg0]; cases neg <;> simp
  have hneg : decide (sg0 = [45]) = neg := by rw [← hsg0]; cases neg <;> simp
  have h49 : hexV 49 = 1 ∧ isHex 49 = true := by decide
  have key : ∃ M X, parseOf f (bs (prN neg ds t)) = some (sgn f neg (hxPat f M X)) ∧ X = t - 4 * ds.length ∧ M = 16 ^ ds.length + hexN ds := by
    by_cases hds : ds = []
    · subst hds
      refine ⟨hexN [49], t, ?_, by simp, by simp [hexN, h49.1]⟩
      have hn := numOf_plain sg0 [49] sg D 120 112 (.inl rfl) (.inl rfl) hE (fun c hc => by rw [List.mem_singleton] at hc; rw [hc]; exact h49.2) (by simp)
      have eL : (sg0 ++ [48, 120]) ++ [49] ++ (112 :: (sg ++ D)) = sg0 ++ 48 :: (120 :: 49 :: 112 :: (sg ++ D)) := by simp
      rw [hXv, eL] at hn
      have := parse_num f sg0 _ _ _ h0 ⟨_, rfl⟩ hn
      rw [hneg] at this
      rw [← this]
      unfold prN
      rw [hsg0, if_pos rfl]
      refine congrArg (fun l => parseOf f (bs l)) ?_
      simp only [List.append_assoc, List.nil_append, List.cons_append]
      rw [← hXe]; simp
    · refine ⟨hexN ([49] ++ ds), t - 4 * ds.length, ?_, rfl, by rw [hexN_append, hexN_one, h49.1, Nat.one_mul]⟩
      have hn := numOf_point sg0 [49] ds sg D 120 112 (.inl rfl) (.inl rfl) hE (fun c hc => by rw [List.mem_singleton] at hc; rw [hc]; exact h49.2) d3 (by simp)
      have eL : (sg0 ++ [48, 120]) ++ ([49] ++ 46 :: ds) ++ (112 :: (sg ++ D)) = sg0 ++ 48 :: (120 :: 49 :: 46 :: (ds ++ (112 :: (sg ++ D)))) := by simp
      rw [hXv, eL] at hn
      have := parse_num f sg0 _ _ _ h0 ⟨_, rfl⟩ hn
      rw [hneg] at this
      rw [← this]
      unfold prN
      rw [hsg0, if_neg hds]
      refine congrArg (fun l => parseOf f (bs l)) ?_
      simp only [List.append_assoc, List.nil_append, List.cons_append]
      rw [← hXe]; simp
  obtain ⟨M, X, hk, hX, hM⟩ := key
  rw [hk]
  congr 2
  obtain ⟨B, hB1, hB2⟩ : ∃ B : Int, B ≤ t - 64 ∧ B ≤ f.L - 1 := ⟨min (t - 64) (f.L - 1), by omega, by omega⟩
  refine hxPat_same hf (B := B) (by omega) (by omega) hB2 ?_
  unfold nv
  have hMv : M * 16 ^ (16 - ds.length) = m * 2 ^ (64 - n) := by
    rw [hM, Nat.add_mul, d2, ← Nat.pow_add, show ds.length + (16 - ds.length) = 16 by omega, ← hfr]
  have e1 : (X - B).toNat = 4 * (16 - ds.length) + (t - 64 - B).toNat := by omega
  have e2 : (e - B).toNat = (64 - n) + (t - 64 - B).toNat := by omega
  rw [e1, e2, Nat.pow_add, Nat.pow_add, ← Nat.mul_assoc, ← Nat.mul_assoc, Nat.pow_mul, show (2 : Nat) ^ 4 = 16 from rfl, hMv]

/-- A finite pattern's mantissa and exponent are its number. -/
theorem parts_val (f : Fm) (z : Nat) (B : Int) (hB : B ≤ f.L) : nv B (ptM (2 ^ (f.P - 1)) z) (ptE (2 ^ (f.P - 1)) f.L z) = nv B (vP f z) f.L := by
  have hH := Nat.two_pow_pos (f.P - 1)
  unfold nv ptM ptE vP
  generalize 2 ^ (f.P - 1) = H at *
  by_cases h : z < H
  · rw [if_pos h, Nat.div_eq_of_lt h, if_pos rfl, if_pos rfl, Nat.mod_eq_of_lt h]
  · have h1 : 1 ≤ z / H := (Nat.le_div_iff_mul_le hH).2 (by omega)
    rw [if_neg h, if_neg (by omega), if_neg (by omega), show (f.L + ((z / H : Nat) : Int) - 1 - B).toNat = (z / H - 1) + (f.L - B).toNat by omega, Nat.pow_add, Nat.mul_assoc]
theorem parts_exact {f : Fm} (hf : f.ok) (z : Nat) (hz : z ≤ f.inf) : hxPat f (ptM (2 ^ (f.P - 1)) z) (ptE (2 ^ (f.P - 1)) f.L z) = z := by
  refine hxPat_exact hf (B := f.L - 1) ?_ (by omega) hz (parts_val f z (f.L - 1) (by omega))
  unfold ptE
  generalize z / 2 ^ (f.P - 1) = q
  split <;> omega
theorem ptM_facts (f : Fm) (hP : 1 ≤ f.P) (z : Nat) : ptM (2 ^ (f.P - 1)) z < 2 ^ f.P ∧ (z ≠ 0 → ptM (2 ^ (f.P - 1)) z ≠ 0) := by
  have hH := Nat.two_pow_pos (f.P - 1)
  have e : 2 ^ f.P = 2 * 2 ^ (f.P - 1) := by rw [← Nat.pow_succ']; congr 1; omega
  unfold ptM
  rw [e]
  generalize 2 ^ (f.P - 1) = H at *
  have hm := Nat.mod_lt z hH
  split
  · rename_i h
    have := Nat.div_add_mod z H
    rw [h] at this
    omega
  · omega

/-- What Join answers: the size, where there is one. -/
def joinN (f : Fm) (man : Nat) (exp : Int) : Option Nat :=
  if man = 0 then some 0 else
  if exp < f.L - 64 ∨ exp > f.L + 4096 then none else
  let m := man / 2 ^ tz man
  let x := exp + tz man
  if blen m > f.P ∨ x < f.L then none else
  let up := min (f.P - blen m) (x - f.L).toNat
  let m2 := m * 2 ^ up
  if m2 < 2 ^ (f.P - 1) then some m2 else
  let z := (x - up - f.L).toNat * 2 ^ (f.P - 1) + m2
  if z ≥ f.inf then none else some z
theorem join_val {f : Fm} (hf : f.ok) {man : Nat} {exp : Int} {z : Nat} (h : joinN f man exp = some z) : z < f.inf ∧ (man ≠ 0 → f.L ≤ exp + tz man) ∧ ∀ B, B ≤ exp → B ≤ f.L → nv B man exp = nv B (vP f z) f.L := by
  have hfacts := hf.facts
  have hinf : 2 ^ (f.P - 1) ≤ f.inf := by rcases hf with h | h <;> subst h <;> decide
  have hH := Nat.two_pow_pos (f.P - 1)
  unfold joinN at h
  split at h
  · rename_i h0
    injection h with h
    subst h
    exact ⟨by omega, fun hn => absurd h0 hn, fun B _ _ => by unfold nv; rw [h0, vP_zero, Nat.zero_mul, Nat.zero_mul]⟩
  · rename_i h0
    split at h
    · cases h
    · rename_i h1
      have ho := odd_mul h0
      have hop := odd_part h0
      simp only at h
      generalize hmm : man / 2 ^ tz man = m at *
      split at h
      · cases h
      · rename_i h2
        obtain ⟨up, hup⟩ : ∃ up, min (f.P - blen m) (exp + (tz man : Int) - f.L).toNat = up := ⟨_, rfl⟩
        rw [hup] at h
        have hblo := blen_lo hop.2.2
        have hbhi := blen_hi m
        have hb1 := blen_pos hop.2.2
        have hfin : ∀ (q u z : Nat), q = m * 2 ^ up → (u : Int) = exp + tz man - up - f.L → vP f z = q * 2 ^ u → ∀ B, B ≤ exp → B ≤ f.L → nv B man exp = nv B (vP f z) f.L := by
          intro q u z hq hu hv B hB1 hB2
          unfold nv
          rw [hv, hq, Nat.mul_assoc, Nat.mul_assoc, ← Nat.pow_add, ← Nat.pow_add]
          have e : up + (u + (f.L - B).toNat) = tz man + (exp - B).toNat := by omega
          rw [e, Nat.pow_add, ← Nat.mul_assoc, ho]
        split at h
        · rename_i h3
          injection h with h
          subst h
          have hx : up = (exp + (tz man : Int) - f.L).toNat := by
            apply Classical.byContradiction
            intro hne
            have e : up = f.P - blen m := by omega
            have h4 := Nat.mul_le_mul_right (2 ^ up) hblo
            rw [← Nat.pow_add, show blen m - 1 + up = f.P - 1 by omega] at h4
            omega
          refine ⟨by omega, fun _ => by omega, hfin _ 0 _ rfl (by omega) ?_⟩
          rw [Nat.pow_zero, Nat.mul_one]
          unfold vP
          rw [if_pos h3]
        · rename_i h3
          split at h
          · cases h
          · rename_i h4
            injection h with h
            have hlt : m * 2 ^ up ≤ 2 * 2 ^ (f.P - 1) := by
              have e2 : 2 * 2 ^ (f.P - 1) = 2 ^ f.P := by rw [← Nat.pow_succ']; congr 1; omega
              rw [e2]
              have h5 := Nat.mul_le_mul_right (2 ^ up) (Nat.le_of_lt hbhi)
              rw [← Nat.pow_add] at h5
              exact Nat.le_trans h5 (Nat.pow_le_pow_right (by omega) (by omega))
            refine ⟨by omega, fun _ => by omega, ?_⟩
            have hv := vP_enc f (exp + (tz man : Int) - up - f.L).toNat (m * 2 ^ up) (.inr (by omega)) hlt
            rw [h] at hv
            exact hfin _ _ z rfl (by omega) hv
/-- A number of at most 64 bits that the format has is read as just that number. -/
theorem join_read {f : Fm} (hf : f.ok) {man : Nat} {exp : Int} {z : Nat} (h : joinN f man exp = some z) : hxPat f man exp = z := by
  obtain ⟨h1, h2, h3⟩ := join_val hf h
  obtain ⟨B, hB1, hB2⟩ : ∃ B : Int, B ≤ exp ∧ B ≤ f.L - 1 := ⟨min exp (f.L - 1), by omega, by omega⟩
  exact hxPat_exact hf hB1 hB2 (Nat.le_of_lt h1) (h3 B hB1 (by omega))
/-- Order. -/
theorem hx_digits {f : Fm} (hf : f.ok) {a b : Nat} (e : Int) (h : a ≤ b) : hxPat f a e ≤ hxPat f b e := by
  obtain ⟨B, hB1, hB2⟩ : ∃ B : Int, B ≤ e ∧ B ≤ f.L - 1 := ⟨min e (f.L - 1), by omega, by omega⟩
  exact hxPat_mono hf hB1 hB1 hB2 (Nat.mul_le_mul_right _ h)
theorem hx_more {f : Fm} (hf : f.ok) (a : Nat) {e g : Int} (h : e ≤ g) : hxPat f a e ≤ hxPat f a g := by
  obtain ⟨B, hB1, hB2⟩ : ∃ B : Int, B ≤ e ∧ B ≤ f.L - 1 := ⟨min e (f.L - 1), by omega, by omega⟩
  exact hxPat_mono hf hB1 (by omega) hB2 (Nat.mul_le_mul_left _ (Nat.pow_le_pow_right (by omega) (by omega)))
/-- The point may be moved. -/
theorem hx_moved {f : Fm} (hf : f.ok) (a k : Nat) (e : Int) : hxPat f (a * 16 ^ k) (e - 4 * k) = hxPat f a e := by
  obtain ⟨B, hB1, hB2⟩ : ∃ B : Int, B ≤ e - 4 * k ∧ B ≤ f.L - 1 := ⟨min (e - 4 * k) (f.L - 1), by omega, by omega⟩
  refine hxPat_same hf hB1 (by omega) hB2 ?_
  unfold nv
  rw [show (16 : Nat) = 2 ^ 4 from rfl, ← Nat.pow_mul, Nat.mul_assoc, ← Nat.pow_add]
  congr 2; omega
end Go.Proofs.YtfacjlffkcbagaaGreatDoor
