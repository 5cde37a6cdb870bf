/- Plain facts: a pattern's number to n digits; 17 (of Single 9) digits tell it; the text of Digits read back. · Walk of decimal: Digits, of every pattern and count. · Walks of decimal: Digits (printed by gen_dig.py). -/
import Derived.Test.YtmfjimmodaofdaaGreatDoorQt
namespace Go.Proofs.YtmfjimmodaofdaaGreatDoor
open Go.RowKit

/-- The number of z in units of 10^q, rounded to the nearest whole one. -/
def nrN (f : Fm) (z : Nat) (q : Int) : Nat := if shN f z q then shL f z q else shL f z q + 1
theorem nr_near (f : Fm) (z : Nat) (q : Int) (h0 : z ≠ 0) : 2 * (nrN f z q * ufF f q) ≤ 2 * (2 * vP f z * ufG q) + ufF f q ∧ 2 * (2 * vP f z * ufG q) ≤ 2 * (nrN f z q * ufF f q) + ufF f q ∧ shL f z q ≤ nrN f z q ∧ nrN f z q ≤ shL f z q + 1 := by
  obtain ⟨_, _, e, hr⟩ := sh_frame f z q h0
  unfold nrN shN
  generalize hc : cmpI (2 * shR f z q) (ufF f q) = c
  unfold cmpI at hc
  split at hc
  · subst hc
    rw [show decide ((-1 : Int) < 0) = true from rfl, Bool.true_or, if_pos rfl]
    omega
  · split at hc
    · subst hc
      split
      · omega
      · rw [Nat.add_mul, Nat.one_mul]; omega
    · subst hc
      rw [show decide ((1 : Int) < 0) = false from rfl, show decide ((1 : Int) = 0) = false from rfl, Bool.false_or, Bool.false_and, if_neg (by decide), Nat.add_mul, Nat.one_mul]
      omega
/-- Below the number's first digit by k digits. -/
theorem ten_below {f : Fm} {V : Nat} {t : Int} (h : ufF f t ≤ V * ufG t) (k : Nat) : 10 ^ k * ufF f (t - k) ≤ V * ufG (t - k) := by
  have hs := uf_shift f (t - k) k
  rw [show t - (k : Int) + (k : Int) = t by omega] at hs
  have hGt := ufG_pos t
  have h1 := Nat.mul_le_mul_right (ufG (t - k)) h
  rw [hs] at h1
  refine Nat.le_of_mul_le_mul_right (c := ufG t) ?_ hGt
  calc 10 ^ k * ufF f (t - k) * ufG t ≤ V * ufG t * ufG (t - k) := h1
    _ = _ := by ac_rfl
theorem ten_above {f : Fm} {V : Nat} {t : Int} (h : V * ufG (t + 1) < ufF f (t + 1)) (k : Nat) : V * ufG (t - k) < 10 ^ (k + 1) * ufF f (t - k) := by
  have hs := uf_shift f (t - k) (k + 1)
  rw [show t - (k : Int) + ((k + 1 : Nat) : Int) = t + 1 by omega] at hs
  have hG := ufG_pos (t - k)
  have h1 := Nat.mul_lt_mul_of_pos_right h hG
  rw [hs] at h1
  refine Nat.lt_of_mul_lt_mul_right (a := ufG (t + 1)) ?_
  calc V * ufG (t - k) * ufG (t + 1) = V * ufG (t + 1) * ufG (t - k) := by ac_rfl
    _ < _ := h1
theorem nr_size {f : Fm} {z : Nat} {t : Int} (h0 : z ≠ 0) (h : ufF f t ≤ 2 * vP f z * ufG t ∧ 2 * vP f z * ufG (t + 1) < ufF f (t + 1)) (k : Nat) : 10 ^ k ≤ nrN f z (t - k) ∧ nrN f z (t - k) ≤ 10 ^ (k + 1) := by
  have h1 := ten_below h.1 k
  have h2 := ten_above h.2 k
  have hF := ufF_pos f (t - k)
  obtain ⟨_, _, n3, n4⟩ := nr_near f z (t - k) h0
  have g1 : 10 ^ k ≤ shL f z (t - k) := (Nat.le_div_iff_mul_le hF).2 h1
  have g2 : shL f z (t - k) < 10 ^ (k + 1) := (Nat.div_lt_iff_lt_mul hF).2 h2
  omega
/-- The digits and the exponent that Digits lays out. -/
def dgD (N n : Nat) : List UInt8 := if 10 ^ n ≤ N then (Lib.decDigits N).take n else Lib.decDigits N
def dgX (N n : Nat) (t : Int) : Int := if 10 ^ n ≤ N then t + 1 else t
theorem digs_len {N n : Nat} (h1 : 10 ^ n ≤ N) (h2 : N < 10 ^ (n + 1)) : (Lib.decDigits N).length = n + 1 := by
  have hN : N ≠ 0 := by have := Nat.pow_pos (n := n) (show 0 < 10 by omega); omega
  have hle := decDigits_len h2 (by omega)
  obtain ⟨d1, d2, _, _⟩ := dcV_digits N
  have := dcV_lt d2
  rw [d1] at this
  have h3 : 10 ^ n < 10 ^ (Lib.decDigits N).length := Nat.lt_of_le_of_lt h1 this
  have := (Nat.pow_lt_pow_iff_right (show 1 < 10 by omega)).1 h3
  omega
theorem ten_digs (n : Nat) : Lib.decDigits (10 ^ n) = 49 :: List.replicate n 48 := by
  induction n with
  | zero => rw [Nat.pow_zero, Lib.decDigits_one (by decide)]; rfl
  | succ n ih =>
    have h : ¬ 10 ^ (n + 1) < 10 := by rw [Nat.pow_succ]; have := Nat.pow_pos (n := n) (show 0 < 10 by omega); omega
    rw [Lib.decDigits, dif_neg h, Nat.pow_succ, Nat.mul_div_cancel _ (by omega), ih, Nat.mul_mod_left, List.cons_append, List.replicate_succ']
    rfl
theorem dg_facts {N n : Nat} (hn : 1 ≤ n) (h1 : 10 ^ (n - 1) ≤ N) (h2 : N ≤ 10 ^ n) (t : Int) : (dgD N n).length = n ∧ (dgD N n).all isDec = true ∧ (∃ c l, dgD N n = c :: l ∧ c ≠ 48) ∧
    ∃ k : Nat, t - n + 1 + (k : Int) = dgX N n t - n + 1 ∧ N = dcV (dgD N n) * 10 ^ k := by
  have hd := digs_dec N
  unfold dgD dgX
  by_cases h : 10 ^ n ≤ N
  · have e : N = 10 ^ n := by omega
    rw [if_pos h, if_pos h]
    subst e
    obtain ⟨m, rfl⟩ : ∃ m, n = m + 1 := ⟨n - 1, by omega⟩
    have e2 : (Lib.decDigits (10 ^ (m + 1))).take (m + 1) = 49 :: List.replicate m 48 := by
      rw [ten_digs, List.take_succ_cons, List.take_replicate]
      congr 2; omega
    rw [e2]
    refine ⟨by simp, by rw [List.all_cons, zeros_dec]; decide, ⟨49, _, rfl, by decide⟩, 1, by omega, ?_⟩
    have : (49 : UInt8) :: List.replicate m 48 = [49] ++ List.replicate m 48 := rfl
    rw [this, dcV_zeros, Nat.pow_succ]
    have : dcV [49] = 1 := by decide
    rw [this]; omega
  · rw [if_neg h, if_neg h]
    have hl := digs_len (N := N) (n := n - 1) h1 (by rw [show n - 1 + 1 = n by omega]; omega)
    have hN : N ≠ 0 := by have := Nat.pow_pos (n := n - 1) (show 0 < 10 by omega); omega
    exact ⟨by omega, hd, (dcV_digits N).2.2.1 hN, 0, by omega, by rw [(dcV_digits N).1]; omega⟩
/-- What Digits answers of a finite pattern (n digits). -/
def DgOk (f : Fm) (b n : Nat) (T : List UInt8) : Prop :=
  (b % 2 ^ f.S = 0 → T = (if 2 ^ f.S ≤ b then [45] else []) ++ (ptd (List.replicate n 48) ++ [101] ++ Lib.itoa 0)) ∧
  (b % 2 ^ f.S ≠ 0 → ∃ t : Int, (ufF f t ≤ 2 * vP f (b % 2 ^ f.S) * ufG t ∧ 2 * vP f (b % 2 ^ f.S) * ufG (t + 1) < ufF f (t + 1)) ∧ -430 ≤ t ∧ t ≤ 430 ∧
    T = (if 2 ^ f.S ≤ b then [45] else []) ++ (ptd (dgD (nrN f (b % 2 ^ f.S) (t - n + 1)) n) ++ [101] ++ Lib.itoa (dgX (nrN f (b % 2 ^ f.S) (t - n + 1)) n t)))
end Go.Proofs.YtmfjimmodaofdaaGreatDoor

namespace Go.Proofs.YtmfjimmodaofdaaGreatDoor
open Go.RowKit

theorem rnd_nr {f : Fm} (hf : f.ok) {z m u : Nat} {q : Int} (hm : m * 2 ^ (u + 1) = 2 * vP f z) : rnd (inA m (f.L + (u : Int)) q) (inB (f.L + (u : Int)) q) = nrN f z q := by
  have hL : f.L ≤ 0 := Int.le_of_lt (Fm.ok.facts hf).2.2.1
  obtain ⟨h1, h2⟩ := in_units (f := f) (q := q) (x := f.L + (u : Int)) (u := u + 1) (by omega) hL hm
  have hB := inB_pos (f.L + (u : Int)) q
  generalize inA m (f.L + (u : Int)) q = A at *
  generalize inB (f.L + (u : Int)) q = B at *
  obtain ⟨e1, e2, _⟩ := div_scale (Nat.two_pow_pos _) (Nat.two_pow_pos _) hB h1 h2
  have e3 : A / B = shL f z q := e1
  have e4 : cmpI (2 * (A % B)) B = cmpI (2 * shR f z q) (ufF f q) := e2
  have hr := Nat.mod_lt A hB
  have e5 : cmpI (A % B) (B - A % B) = cmpI (2 * shR f z q) (ufF f q) := by
    rw [← e4]
    unfold cmpI
    by_cases c1 : 2 * (A % B) < B
    · rw [if_pos c1, if_pos (by omega)]
    · rw [if_neg c1, if_neg (by omega)]
      by_cases c2 : 2 * (A % B) = B
      · rw [if_pos c2, if_pos (by omega)]
      · rw [if_neg c2, if_neg (by omega)]
  unfold rnd nrN shN moreN
  rw [e5, e3]
  rcases cmpI_cases (2 * shR f z q) (ufF f q) with h | h | h <;> rw [h] <;> cases tb (shL f z q) 0 <;> simp
/-- What Digits answers. -/
def DgAns (f : Fm) (b : Nat) (n : Int) (T : List UInt8) (k : Int) : Prop :=
  if n < 1 ∨ 800 < n then T = [] ∧ k = 1 else if f.inf ≤ b % 2 ^ f.S then T = [] ∧ k = 6 else k = 0 ∧ DgOk f b n.toNat T
theorem dgAns_bad {f : Fm} {b : Nat} {n : Int} (h : n < 1 ∨ 800 < n) : DgAns f b n [] 1 := by unfold DgAns; rw [if_pos h]; exact ⟨rfl, rfl⟩
theorem dgAns_cls {f : Fm} {b : Nat} {n : Int} (h : ¬ (n < 1 ∨ 800 < n)) (h2 : f.inf ≤ b % 2 ^ f.S) : DgAns f b n [] 6 := by unfold DgAns; rw [if_neg h, if_pos h2]; exact ⟨rfl, rfl⟩
theorem dgAns_ok {f : Fm} {b n : Nat} {T : List UInt8} (h1 : 1 ≤ n) (h2 : n ≤ 800) (h3 : ¬ f.inf ≤ b % 2 ^ f.S) (h : DgOk f b n T) : DgAns f b (n : Int) T 0 := by
  unfold DgAns; rw [if_neg (by omega), if_neg h3]; exact ⟨rfl, by rw [Int.toNat_natCast]; exact h⟩
theorem classOf_any (f : Fm) (hf : f.ok) (b : Nat) (hb : b < 2 ^ (f.S + 1)) (w : World) :
    Calls Tryz.prog 37 #[.int .i64 (fmt f), .int .u64 (b : Int)] w fun e w' => e = .returned (.tuple #[.int .i64 ((clsF f (b % 2 ^ f.S) : Nat) : Int), .int .i64 0]) ∧ Below w.heap.size w w' := by
  rcases hf with h | h <;> subst h
  · exact classOf_S b hb w
  · exact classOf_D b hb w
theorem itoa_zero : Lib.itoa 0 = [48] := by
  rw [show Lib.itoa 0 = Lib.decDigits 0 from Lib.itoa_nonneg 0, Lib.decDigits_one (by decide)]; rfl
end Go.Proofs.YtmfjimmodaofdaaGreatDoor

namespace Go.Proofs.YtmfjimmodaofdaaGreatDoor
open Go.RowKit

set_option maxRecDepth 100000 in
set_option maxHeartbeats 4000000 in
/-- Digits of a finite pattern of the format. -/
theorem ddg_S (b : Nat) (hb : b < 4294967296) (n : Nat) (hn1 : 1 ≤ n) (hn2 : n ≤ 800) (hfin : ¬ fmS.inf ≤ b % 2 ^ fmS.S) (w : World) (ht : Tab64 w) (h10 : Tab10 w) :
    Calls Tryz.prog 30 #[.int .i64 32, .int .u64 (b : Int), .int .i64 (n : Int)] w fun e w' => ∃ T, e = .returned (.tuple #[.string (bs T), .int .i64 0]) ∧ DgOk fmS b n T ∧ Below w.heap.size w w' := by
  have hok : fmS.ok := .inl rfl
  have HQ := Lib.hid (fun W => quiet_any fmS hok W)
  have HC := Lib.hid (fun W => classOf_any fmS hok b hb W)
  have HMi := Lib.hid (fun W => minus_walk fmS hok b hb W)
  rw [fmt_S] at HQ HC HMi
  have HT := Lib.hid ht
  have H10 := Lib.hid h10
  have hi1 : ¬ (n : Int) < 1 := by omega
  have hi2 : ¬ (800 : Int) < (n : Int) := by omega
  have hi3 : decide ((n : Int) < 1) = false := decide_eq_false hi1
  have HN := Lib.hid (show 1 ≤ n ∧ n ≤ 800 from ⟨hn1, hn2⟩)
  obtain ⟨sg, hsg⟩ : ∃ sg : List UInt8, (if 2 ^ fmS.S ≤ b then [45] else []) = sg := ⟨_, rfl⟩
  rw [hsg] at HMi
  have hsl : (bs sg).size ≤ 1 := by rw [bs_size, ← hsg]; split <;> simp
  obtain ⟨qt, hqt⟩ : ∃ qt, fmS.quiet = qt := ⟨_, rfl⟩
  rw [hqt] at HQ
  by_cases h0 : b % 2 ^ fmS.S = 0
  · have hc : clsF fmS (b % 2 ^ fmS.S) = 0 := by unfold clsF clsN; rw [if_pos h0]
    rw [hc] at HC
    have HP : Hid (DgOk fmS b n (sg ++ (ptd (List.replicate n 48) ++ [101] ++ Lib.itoa 0))) := Lib.hid ⟨fun _ => by rw [hsg], fun h => absurd h0 h⟩
    have HR := Lib.hid (fun W => Tryz.strings_Repeat ⟨#[48]⟩ n W (by omega) (by rw [show (⟨#[48]⟩ : ByteArray).size = 1 from rfl]; omega))
    rw [show (⟨#[48]⟩ : ByteArray).data.toList = [48] from rfl, repeat_zero] at HR
    have HPt := Lib.hid (fun W => pointed_walk (List.replicate n 48) (by simp; omega) (by simp; omega) W)
    have HPD := Lib.hid (show bs sg ++ bs (ptd (List.replicate n 48)) ++ bs [101, 48] = bs (sg ++ (ptd (List.replicate n 48) ++ [101] ++ Lib.itoa 0)) by
      rw [bs_append, bs_append, itoa_zero]; simp)
    have hpl : (bs (ptd (List.replicate n 48))).size ≤ 900 := by
      rw [bs_size]; unfold ptd
      split
      · simp; omega
      · simp; omega
    have hrl : (⟨(List.replicate n (48 : UInt8)).toArray⟩ : ByteArray) = bs (List.replicate n 48) := rfl
    rw [hrl] at HR
    have hpl2 : (bs sg ++ bs (ptd (List.replicate n 48))).size ≤ 901 := by rw [ByteArray.size_append]; omega
    obtain ⟨Z, hZ⟩ : ∃ Z, bs (List.replicate n 48) = Z := ⟨_, rfl⟩
    obtain ⟨S, hS⟩ : ∃ S, bs sg = S := ⟨_, rfl⟩
    obtain ⟨P, hP⟩ : ∃ P, bs (ptd (List.replicate n 48)) = P := ⟨_, rfl⟩
    rw [hZ] at HR HPt
    rw [hS] at HMi hsl HPD hpl2
    rw [hP] at HPt HPD hpl hpl2
    have hs2 : (⟨#[101, 48]⟩ : ByteArray).size = 2 := rfl
    clear h0 hc hZ hS hP hrl hsg hqt hb hfin ht h10 hn1 hn2
    go_enter Tryz.func30, Tryz.ntmps30
    go_wp2_with fail
    refine (HQ.out _).mono ?_
    rintro e w1 ⟨rfl, hb1⟩
    have HW1 := Lib.hid hb1
    clear hb1
    go_wp2_with fail
    refine (HC.out _).mono ?_
    rintro e w2 ⟨rfl, hb2⟩
    have HW2 := Lib.hid (below_chain HW1.out hb2)
    clear hb2 HW1
    go_wp2_with fail
    refine (HMi.out _).mono ?_
    rintro e w3 ⟨rfl, hw3⟩
    have h := hw3.symm
    subst h
    clear hw3
    go_wp2_with fail
    refine (HR.out _).mono ?_
    rintro e w4 ⟨rfl, hb4⟩
    have HW4 := Lib.hid (below_chain HW2.out hb4)
    clear hb4 HW2
    go_wp2_with fail
    refine (HPt.out _).mono ?_
    rintro e w5 ⟨rfl, hb5⟩
    have HW5 := Lib.hid (below_chain HW4.out hb5)
    clear hb5 HW4
    go_wp2
    go_ret2
    exact ⟨_, by rw [← HPD.out]; rfl, HP.out, HW5.out⟩
  obtain ⟨z, hz⟩ : ∃ z, b % 2 ^ fmS.S = z := ⟨_, rfl⟩
  rw [hz] at HC h0 hfin
  have hcf := (cls_fin hok z).2 ⟨h0, by omega⟩
  have HV := Lib.hid (fun W hT => value_any fmS hok z h0 (by omega) W hT)
  rw [fmt_S] at HV
  have hmk := mask_at (b := b) (M := 2147483647) (S := 31) (by omega) rfl (by omega)
  rw [show b % (2 : Nat) ^ 31 = b % 2 ^ fmS.S from rfl, hz, show ((2147483647 : Nat) : Int) = 2147483647 from rfl] at hmk
  have HMk := Lib.hid hmk
  have HP : Hid (∀ (t : Int) (N : Nat), (ufF fmS t ≤ 2 * vP fmS z * ufG t ∧ 2 * vP fmS z * ufG (t + 1) < ufF fmS (t + 1)) → -430 ≤ t → t ≤ 430 → nrN fmS z (t - n + 1) = N → DgOk fmS b n (sg ++ (ptd (dgD N n) ++ [101] ++ Lib.itoa (dgX N n t)))) := Lib.hid fun t N h1 h2 h3 h4 => ⟨fun h => absurd (hz.symm.trans h) h0, fun _ => ⟨t, by rw [hz]; exact h1, h2, h3, by rw [hz, hsg, h4]⟩⟩
  have HZ0 := Lib.hid h0
  have HL : Hid (fmS.L = fmS.L) := Lib.hid rfl
  obtain ⟨L, hL⟩ : ∃ L, fmS.L = L := ⟨_, rfl⟩
  have hLb : -1074 ≤ L ∧ L < 0 := by rw [← hL]; decide
  have HTn : Hid (∀ (m u : Nat) (t : Int), m * 2 ^ (u + 1) = 2 * vP fmS z → tenIs m (L + (u : Int)) t → ufF fmS t ≤ 2 * vP fmS z * ufG t ∧ 2 * vP fmS z * ufG (t + 1) < ufF fmS (t + 1)) := Lib.hid fun m u t h1 h2 => ten_units hok h1 (by rw [hL]; exact h2)
  have HRn : Hid (∀ (m u : Nat) (q : Int), m * 2 ^ (u + 1) = 2 * vP fmS z → rnd (inA m (L + (u : Int)) q) (inB (L + (u : Int)) q) = nrN fmS z q) := Lib.hid fun m u q h1 => by rw [← hL]; exact rnd_nr hok h1
  rw [hL] at HV
  clear hz h0 hb hfin hsg hqt ht h10 hmk hn1 hn2 hL HL
  obtain ⟨cc, hcc⟩ : ∃ cc, clsF fmS z = cc := ⟨_, rfl⟩
  rw [hcc] at HC hcf
  clear hcc
  rcases hcf with rfl | rfl
  all_goals
    go_enter Tryz.func30, Tryz.ntmps30
    go_wp2_with fail
    refine (HQ.out _).mono ?_
    rintro e w1 ⟨rfl, hb1⟩
    have HW1 := Lib.hid hb1
    clear hb1 HQ
    go_wp2_with fail
    refine (HC.out _).mono ?_
    rintro e w2 ⟨rfl, hb2⟩
    have HW2 := Lib.hid (below_chain HW1.out hb2)
    have hmk := HMk.out
    clear hb2 HW1 HC
    go_wp2_with fail
    refine (HV.out _ (HT.out.below HW2.out)).mono ?_
    rintro e w3 ⟨m, u, s, rfl, hn3, hm0, hmu, hmb, hxu, hb3⟩
    have hb4 := below_alloc' w3 (.cells #[.bool false, s, .int .i64 (L + (u : Int))] 46)
    have HN4 := Lib.hid (hn3.below hb4)
    have HW4 := Lib.hid (below_chain (below_chain HW2.out hb3) hb4)
    have HY4 : Hid (Box3 (w3.alloc (.cells #[.bool false, s, .int .i64 (L + (u : Int))] 46)) w3.heap.size (.bool false) s (.int .i64 (L + (u : Int)))) := Lib.hid ⟨by simp, by simp, by simp, by simp, by simp, by simp, by simp⟩
    have HM := Lib.hid (show m ≠ 0 ∧ m * 2 ^ (u + 1) = 2 * vP fmS z ∧ blen m ≤ 64 ∧ L + (u : Int) ≤ 1026 from ⟨hm0, hmu, hmb, hxu⟩)
    obtain ⟨A1, c1, rfl, hc1, hr1⟩ := hn3
    obtain ⟨n1, hn1⟩ : ∃ n, (toL m).length = n := ⟨_, rfl⟩
    rw [hn1] at HN4 HW4 HY4 ⊢
    obtain ⟨y0, y1, y2, _⟩ := HY4.out
    clear hb3 hb4 hc1 hr1 hn1 hm0 hmu hmb hxu HV HW2 hmk
    go_wp2_with fail
    obtain ⟨w4, hw4⟩ : ∃ w4, w3.alloc (.cells #[.bool false, .slice A1 n1 c1, .int .i64 (L + (u : Int))] 46) = w4 := ⟨_, rfl⟩
    obtain ⟨gv, hgv⟩ : ∃ g, w3.heap.size = g := ⟨_, rfl⟩
    rw [hw4] at HN4 HW4 HY4 ⊢
    rw [hgv] at HY4 ⊢
    clear hw4 hgv y0 y1 y2
    refine (tens_walk _ m (L + (u : Int)) w4 HN4.out HM.out.1 HM.out.2.2.1 (by omega) (by have := HM.out; omega)).mono ?_
    rintro e w5 ⟨t, rfl, htn, ht1, ht2, hb5⟩
    have HTn2 := Lib.hid (HTn.out m u t HM.out.2.1 htn)
    have HN5 := Lib.hid (HN4.out.below hb5)
    have HY5 := Lib.hid (HY4.out.below hb5)
    have HW5 := Lib.hid (below_chain HW4.out hb5)
    obtain ⟨y0, y1, y2, _⟩ := HY5.out
    obtain ⟨q, hq⟩ : ∃ q : Int, t - n + 1 = q := ⟨_, rfl⟩
    have p1 : IntKind.i64.wrap (t - (n : Int)) = t - (n : Int) := by have := HN.out; rw [IntKind.wrap_i64]; omega
    have p2 : IntKind.i64.wrap (t - (n : Int) + 1) = q := by have := HN.out; rw [IntKind.wrap_i64]; omega
    have hqb : -1300 ≤ q ∧ q ≤ 500 := by have := HN.out; omega
    have HQq := Lib.hid hq
    have HTb := Lib.hid (show -430 ≤ t ∧ t ≤ 430 from ⟨ht1, ht2⟩)
    clear htn hb5 HN4 HY4 HW4 HTn hq
    go_wp2_with fail
    refine (in10_walk _ m (L + (u : Int)) q w5 HN5.out HM.out.2.2.1 (by omega) (by have := HM.out; omega) (by omega) (by omega)).mono ?_
    rintro e w6 ⟨va, vb, rfl, ha6, hb6, hk6⟩
    have hb7 := below_alloc' w6 (.cells #[va, vb] 109)
    obtain ⟨A, hA⟩ : ∃ A, inA m (L + (u : Int)) q = A := ⟨_, rfl⟩
    obtain ⟨B, hB⟩ : ∃ B, inB (L + (u : Int)) q = B := ⟨_, rfl⟩
    obtain ⟨N, hN⟩ : ∃ N, rnd A B = N := ⟨_, rfl⟩
    have hrn := HRn.out m u q HM.out.2.1
    rw [hA, hB, hN] at hrn
    rw [hA] at ha6
    rw [hB] at hb6
    have hAb : blen A ≤ 7601 := by rw [← hA]; exact (inA_blen HM.out.2.2.1 (by have := HM.out; omega) (by omega)).2.2
    have hBb : blen B ≤ 7601 := by rw [← hB]; exact (inB_blen (by omega) (by omega)).2
    have hB0 : 0 < B := by rw [← hB]; exact inB_pos _ _
    have HA7 := Lib.hid (ha6.below hb7)
    have HB7 := Lib.hid (hb6.below hb7)
    have HW7 := Lib.hid (below_chain (below_chain HW5.out hk6) hb7)
    have hX7 : Box2 (w6.alloc (.cells #[va, vb] 109)) w6.heap.size va vb := ⟨by simp, by simp, by simp, by simp, by simp⟩
    have HX7 := Lib.hid hX7
    have HAB := Lib.hid (show blen A ≤ 7601 ∧ (toL B).length ≤ 8192 ∧ B ≠ 0 from ⟨hAb, by rw [toL_length]; omega, by omega⟩)
    have hsz := nr_size HZ0.out HTn2.out (n - 1)
    have hnn : t - ((n - 1 : Nat) : Int) = q := by have := HN.out; have := HQq.out; omega
    rw [hnn, ← hrn, show n - 1 + 1 = n by have := HN.out; omega] at hsz
    have HSz := Lib.hid hsz
    have HPN := Lib.hid (HP.out t N HTn2.out HTb.out.1 HTb.out.2 (by rw [HQq.out]; exact hrn.symm))
    obtain ⟨Aa, ca, rfl, hca, hra⟩ := ha6
    obtain ⟨Ab, cb, rfl, hcb, hrb⟩ := hb6
    obtain ⟨na, hna⟩ : ∃ n, (toL A).length = n := ⟨_, rfl⟩
    obtain ⟨nb, hnb⟩ : ∃ n, (toL B).length = n := ⟨_, rfl⟩
    rw [hnb, hna] at HX7 HW7 ⊢
    rw [hna] at HA7
    rw [hnb] at HB7
    rw [hnb] at HA7
    rw [hna] at HB7
    obtain ⟨x0, x1, _⟩ := HX7.out
    clear hk6 hb7 hX7 hca hra hcb hrb hna hnb hA hB hAb hBb hB0 y0 y1 y2 HY5 HN5 HW5 HP HRn HTn2 hrn hsz hnn p1 p2 hqb HM
    go_wp2_with fail
    obtain ⟨w7, hw7⟩ : ∃ w7, w6.alloc (.cells #[.slice Aa na ca, .slice Ab nb cb] 109) = w7 := ⟨_, rfl⟩
    obtain ⟨gr, hgr⟩ : ∃ g, w6.heap.size = g := ⟨_, rfl⟩
    rw [hw7] at HA7 HB7 HW7 HX7 ⊢
    rw [hgr] at HX7 ⊢
    clear hw7 hgr x0 x1
    refine (neardiv_walk _ _ A B w7 HA7.out HB7.out HAB.out.2.2 (by have := HAB.out; omega) HAB.out.2.1).mono ?_
    rintro e w8 ⟨s8, rfl, hn8, hb8⟩
    rw [hN] at hn8
    have hb9 := below_alloc' w8 (.cells #[.bool false, s8] 44)
    have HN9 := Lib.hid (hn8.below hb9)
    have HW9 := Lib.hid (below_chain (below_chain HW7.out hb8) hb9)
    have hX9 : Box2 (w8.alloc (.cells #[.bool false, s8] 44)) w8.heap.size (.bool false) s8 := ⟨by simp, by simp, by simp, by simp, by simp⟩
    have HX9 := Lib.hid hX9
    obtain ⟨A8, c8, rfl, hc8, hr8⟩ := hn8
    obtain ⟨n8, hn8⟩ : ∃ n, (toL N).length = n := ⟨_, rfl⟩
    rw [hn8] at HN9 HW9 HX9 ⊢
    obtain ⟨x0, x1, _⟩ := HX9.out
    clear hb8 hb9 hX9 hc8 hr8 hn8 hN HA7 HB7 HW7 HX7 HAB
    go_wp2_with fail
    obtain ⟨w9, hw9⟩ : ∃ w9, w8.alloc (.cells #[.bool false, .slice A8 n8 c8] 44) = w9 := ⟨_, rfl⟩
    rw [hw9] at HN9 HW9 ⊢
    clear hw9 x0 x1 HX9
    refine (text_walk _ N (n + 1) w9 HN9.out (by have := HSz.out.2; have := Nat.pow_lt_pow_right (show 1 < 10 by omega) (show n < n + 1 by omega); omega) (by have := HN.out; omega) (by omega)).mono ?_
    rintro e w10 ⟨rfl, hb10⟩
    have HW10 := Lib.hid (below_chain HW9.out hb10)
    obtain ⟨f1, f2, _, _⟩ := dg_facts HN.out.1 HSz.out.1 HSz.out.2 t
    have hxb : -440 ≤ dgX N n t ∧ dgX N n t ≤ 440 := by have := HTb.out; unfold dgX; split <;> omega
    have hpl : (bs (ptd (dgD N n))).size ≤ 900 := by
      have := HN.out
      rw [bs_size]; unfold ptd
      split
      · omega
      · simp; omega
    have hpl2 : (bs sg ++ bs (ptd (dgD N n))).size ≤ 901 := by rw [ByteArray.size_append]; omega
    have hpl3 : (bs sg ++ bs (ptd (dgD N n)) ++ (⟨#[101]⟩ : ByteArray)).size ≤ 902 := by rw [ByteArray.size_append]; have : (⟨#[101]⟩ : ByteArray).size = 1 := rfl; omega
    have hpl4 : (bs (Lib.itoa (dgX N n t))).size ≤ 20 := by rw [bs_size]; exact itoa_len _ (by omega) (by omega)
    have hs1 : (⟨#[101]⟩ : ByteArray).size = 1 := rfl
    have HPt := Lib.hid (fun W => pointed_walk (dgD N n) (by have := HN.out; omega) (by have := HN.out; omega) W)
    have HIt := Lib.hid (fun W h => itoa_walk (dgX N n t) (by omega) (by omega) W h)
    have HPD := Lib.hid (show bs sg ++ bs (ptd (dgD N n)) ++ (⟨#[101]⟩ : ByteArray) ++ bs (Lib.itoa (dgX N n t)) = bs (sg ++ (ptd (dgD N n) ++ [101] ++ Lib.itoa (dgX N n t))) by
      rw [show (⟨#[101]⟩ : ByteArray) = bs [101] from rfl, bs_append, bs_append, bs_append]; simp)
    have hdl : (bs (Lib.decDigits N)).size = (Lib.decDigits N).length := bs_size _
    by_cases hbig : 10 ^ n ≤ N
    · have hlen : (Lib.decDigits N).length = n + 1 := digs_len hbig (by have := HSz.out.2; have := Nat.pow_lt_pow_right (show 1 < 10 by omega) (show n < n + 1 by omega); omega)
      have hD : bs (dgD N n) = (bs (Lib.decDigits N)).extract 0 n := by unfold dgD; rw [if_pos hbig, bs_take]
      have hX : dgX N n t = t + 1 := by unfold dgX; rw [if_pos hbig]
      rw [hD] at HPt
      obtain ⟨P, hP⟩ : ∃ P, bs (ptd (dgD N n)) = P := ⟨_, rfl⟩
      obtain ⟨I, hI⟩ : ∃ I, bs (Lib.itoa (dgX N n t)) = I := ⟨_, rfl⟩
      rw [hP] at HPt HPD hpl hpl2 hpl3
      rw [hI] at HIt HPD hpl4
      obtain ⟨x, hx⟩ : ∃ x, dgX N n t = x := ⟨_, rfl⟩
      rw [hx] at hX HIt hxb
      rw [show (⟨(Lib.decDigits N).toArray⟩ : ByteArray) = bs (Lib.decDigits N) from rfl]
      obtain ⟨S, hS⟩ : ∃ S, bs (Lib.decDigits N) = S := ⟨_, rfl⟩
      rw [hS] at HPt hdl ⊢
      have hSs : S.size = n + 1 := by omega
      obtain ⟨G, hG⟩ : ∃ G, bs sg = G := ⟨_, rfl⟩
      rw [hG] at HMi HPD hsl hpl2 hpl3
      have k1 : (n : Int) < (S.size : Int) := by omega
      have k2 : (n : Int) ≤ (S.size : Int) := by omega
      have k3 : IntKind.i64.wrap (t + 1) = x := by rw [IntKind.wrap_i64]; have := HTb.out; omega
      clear hb10 HN9 HW9 HSz hdl hlen hD hX hP hI hx hS hSs hG f1 f2 hbig
      go_wp2_with fail
      refine (HMi.out _).mono ?_
      rintro e w11 ⟨rfl, hw11⟩
      have h := hw11.symm
      subst h
      clear hw11
      go_wp2_with fail
      refine (HPt.out _).mono ?_
      rintro e w12 ⟨rfl, hb12⟩
      have HW12 := Lib.hid (below_chain HW10.out hb12)
      clear hb12 HW10
      go_wp2_with fail
      refine (HIt.out _ (H10.out.below HW12.out)).mono ?_
      rintro e w13 ⟨rfl, hb13⟩
      have HW13 := Lib.hid (below_chain HW12.out hb13)
      clear hb13 HW12
      go_wp2
      go_ret2
      exact ⟨_, by rw [← HPD.out]; rfl, HPN.out, HW13.out⟩
    · have hD : dgD N n = Lib.decDigits N := by unfold dgD; rw [if_neg hbig]
      have hX : dgX N n t = t := by unfold dgX; rw [if_neg hbig]
      rw [hD] at f1
      rw [hD] at HPt
      rw [hX] at HIt HPD hpl4 HPN
      rw [hD] at HPD hpl hpl2 hpl3 HPN
      rw [show (⟨(Lib.decDigits N).toArray⟩ : ByteArray) = bs (Lib.decDigits N) from rfl]
      obtain ⟨P, hP⟩ : ∃ P, bs (ptd (Lib.decDigits N)) = P := ⟨_, rfl⟩
      obtain ⟨I, hI⟩ : ∃ I, bs (Lib.itoa t) = I := ⟨_, rfl⟩
      rw [hP] at HPt HPD hpl hpl2 hpl3
      rw [hI] at HIt HPD hpl4
      obtain ⟨S, hS⟩ : ∃ S, bs (Lib.decDigits N) = S := ⟨_, rfl⟩
      rw [hS] at HPt hdl ⊢
      have hSs : S.size = n := by omega
      obtain ⟨G, hG⟩ : ∃ G, bs sg = G := ⟨_, rfl⟩
      rw [hG] at HMi HPD hsl hpl2 hpl3
      have k1 : ¬ (n : Int) < (S.size : Int) := by omega
      clear hb10 HN9 HW9 HSz hdl hD hX hP hI hS hSs hG f1 f2 hbig hxb
      go_wp2_with fail
      refine (HMi.out _).mono ?_
      rintro e w11 ⟨rfl, hw11⟩
      have h := hw11.symm
      subst h
      clear hw11
      go_wp2_with fail
      refine (HPt.out _).mono ?_
      rintro e w12 ⟨rfl, hb12⟩
      have HW12 := Lib.hid (below_chain HW10.out hb12)
      clear hb12 HW10
      go_wp2_with fail
      refine (HIt.out _ (H10.out.below HW12.out)).mono ?_
      rintro e w13 ⟨rfl, hb13⟩
      have HW13 := Lib.hid (below_chain HW12.out hb13)
      clear hb13 HW12
      go_wp2
      go_ret2
      exact ⟨_, by rw [← HPD.out]; rfl, HPN.out, HW13.out⟩

set_option maxRecDepth 100000 in
set_option maxHeartbeats 4000000 in
/-- Digits of a finite pattern of the format. -/
theorem ddg_D (b : Nat) (hb : b < 18446744073709551616) (n : Nat) (hn1 : 1 ≤ n) (hn2 : n ≤ 800) (hfin : ¬ fmD.inf ≤ b % 2 ^ fmD.S) (w : World) (ht : Tab64 w) (h10 : Tab10 w) :
    Calls Tryz.prog 30 #[.int .i64 64, .int .u64 (b : Int), .int .i64 (n : Int)] w fun e w' => ∃ T, e = .returned (.tuple #[.string (bs T), .int .i64 0]) ∧ DgOk fmD b n T ∧ Below w.heap.size w w' := by
  have hok : fmD.ok := .inr rfl
  have HQ := Lib.hid (fun W => quiet_any fmD hok W)
  have HC := Lib.hid (fun W => classOf_any fmD hok b hb W)
  have HMi := Lib.hid (fun W => minus_walk fmD hok b hb W)
  rw [fmt_D] at HQ HC HMi
  have HT := Lib.hid ht
  have H10 := Lib.hid h10
  have hi1 : ¬ (n : Int) < 1 := by omega
  have hi2 : ¬ (800 : Int) < (n : Int) := by omega
  have hi3 : decide ((n : Int) < 1) = false := decide_eq_false hi1
  have HN := Lib.hid (show 1 ≤ n ∧ n ≤ 800 from ⟨hn1, hn2⟩)
  obtain ⟨sg, hsg⟩ : ∃ sg : List UInt8, (if 2 ^ fmD.S ≤ b then [45] else []) = sg := ⟨_, rfl⟩
  rw [hsg] at HMi
  have hsl : (bs sg).size ≤ 1 := by rw [bs_size, ← hsg]; split <;> simp
  obtain ⟨qt, hqt⟩ : ∃ qt, fmD.quiet = qt := ⟨_, rfl⟩
  rw [hqt] at HQ
  by_cases h0 : b % 2 ^ fmD.S = 0
  · have hc : clsF fmD (b % 2 ^ fmD.S) = 0 := by unfold clsF clsN; rw [if_pos h0]
    rw [hc] at HC
    have HP : Hid (DgOk fmD b n (sg ++ (ptd (List.replicate n 48) ++ [101] ++ Lib.itoa 0))) := Lib.hid ⟨fun _ => by rw [hsg], fun h => absurd h0 h⟩
    have HR := Lib.hid (fun W => Tryz.strings_Repeat ⟨#[48]⟩ n W (by omega) (by rw [show (⟨#[48]⟩ : ByteArray).size = 1 from rfl]; omega))
    rw [show (⟨#[48]⟩ : ByteArray).data.toList = [48] from rfl, repeat_zero] at HR
    have HPt := Lib.hid (fun W => pointed_walk (List.replicate n 48) (by simp; omega) (by simp; omega) W)
    have HPD := Lib.hid (show bs sg ++ bs (ptd (List.replicate n 48)) ++ bs [101, 48] = bs (sg ++ (ptd (List.replicate n 48) ++ [101] ++ Lib.itoa 0)) by
      rw [bs_append, bs_append, itoa_zero]; simp)
    have hpl : (bs (ptd (List.replicate n 48))).size ≤ 900 := by
      rw [bs_size]; unfold ptd
      split
      · simp; omega
      · simp; omega
    have hrl : (⟨(List.replicate n (48 : UInt8)).toArray⟩ : ByteArray) = bs (List.replicate n 48) := rfl
    rw [hrl] at HR
    have hpl2 : (bs sg ++ bs (ptd (List.replicate n 48))).size ≤ 901 := by rw [ByteArray.size_append]; omega
    obtain ⟨Z, hZ⟩ : ∃ Z, bs (List.replicate n 48) = Z := ⟨_, rfl⟩
    obtain ⟨S, hS⟩ : ∃ S, bs sg = S := ⟨_, rfl⟩
    obtain ⟨P, hP⟩ : ∃ P, bs (ptd (List.replicate n 48)) = P := ⟨_, rfl⟩
    rw [hZ] at HR HPt
    rw [hS] at HMi hsl HPD hpl2
    rw [hP] at HPt HPD hpl hpl2
    have hs2 : (⟨#[101, 48]⟩ : ByteArray).size = 2 := rfl
    clear h0 hc hZ hS hP hrl hsg hqt hb hfin ht h10 hn1 hn2
    go_enter Tryz.func30, Tryz.ntmps30
    go_wp2_with fail
    refine (HQ.out _).mono ?_
    rintro e w1 ⟨rfl, hb1⟩
    have HW1 := Lib.hid hb1
    clear hb1
    go_wp2_with fail
    refine (HC.out _).mono ?_
    rintro e w2 ⟨rfl, hb2⟩
    have HW2 := Lib.hid (below_chain HW1.out hb2)
    clear hb2 HW1
    go_wp2_with fail
    refine (HMi.out _).mono ?_
    rintro e w3 ⟨rfl, hw3⟩
    have h := hw3.symm
    subst h
    clear hw3
    go_wp2_with fail
    refine (HR.out _).mono ?_
    rintro e w4 ⟨rfl, hb4⟩
    have HW4 := Lib.hid (below_chain HW2.out hb4)
    clear hb4 HW2
    go_wp2_with fail
    refine (HPt.out _).mono ?_
    rintro e w5 ⟨rfl, hb5⟩
    have HW5 := Lib.hid (below_chain HW4.out hb5)
    clear hb5 HW4
    go_wp2
    go_ret2
    exact ⟨_, by rw [← HPD.out]; rfl, HP.out, HW5.out⟩
  obtain ⟨z, hz⟩ : ∃ z, b % 2 ^ fmD.S = z := ⟨_, rfl⟩
  rw [hz] at HC h0 hfin
  have hcf := (cls_fin hok z).2 ⟨h0, by omega⟩
  have HV := Lib.hid (fun W hT => value_any fmD hok z h0 (by omega) W hT)
  rw [fmt_D] at HV
  have hmk := mask_at (b := b) (M := 9223372036854775807) (S := 63) (by omega) rfl (by omega)
  rw [show b % (2 : Nat) ^ 63 = b % 2 ^ fmD.S from rfl, hz, show ((9223372036854775807 : Nat) : Int) = 9223372036854775807 from rfl] at hmk
  have HMk := Lib.hid hmk
  have HP : Hid (∀ (t : Int) (N : Nat), (ufF fmD t ≤ 2 * vP fmD z * ufG t ∧ 2 * vP fmD z * ufG (t + 1) < ufF fmD (t + 1)) → -430 ≤ t → t ≤ 430 → nrN fmD z (t - n + 1) = N → DgOk fmD b n (sg ++ (ptd (dgD N n) ++ [101] ++ Lib.itoa (dgX N n t)))) := Lib.hid fun t N h1 h2 h3 h4 => ⟨fun h => absurd (hz.symm.trans h) h0, fun _ => ⟨t, by rw [hz]; exact h1, h2, h3, by rw [hz, hsg, h4]⟩⟩
  have HZ0 := Lib.hid h0
  have HL : Hid (fmD.L = fmD.L) := Lib.hid rfl
  obtain ⟨L, hL⟩ : ∃ L, fmD.L = L := ⟨_, rfl⟩
  have hLb : -1074 ≤ L ∧ L < 0 := by rw [← hL]; decide
  have HTn : Hid (∀ (m u : Nat) (t : Int), m * 2 ^ (u + 1) = 2 * vP fmD z → tenIs m (L + (u : Int)) t → ufF fmD t ≤ 2 * vP fmD z * ufG t ∧ 2 * vP fmD z * ufG (t + 1) < ufF fmD (t + 1)) := Lib.hid fun m u t h1 h2 => ten_units hok h1 (by rw [hL]; exact h2)
  have HRn : Hid (∀ (m u : Nat) (q : Int), m * 2 ^ (u + 1) = 2 * vP fmD z → rnd (inA m (L + (u : Int)) q) (inB (L + (u : Int)) q) = nrN fmD z q) := Lib.hid fun m u q h1 => by rw [← hL]; exact rnd_nr hok h1
  rw [hL] at HV
  clear hz h0 hb hfin hsg hqt ht h10 hmk hn1 hn2 hL HL
  obtain ⟨cc, hcc⟩ : ∃ cc, clsF fmD z = cc := ⟨_, rfl⟩
  rw [hcc] at HC hcf
  clear hcc
  rcases hcf with rfl | rfl
  all_goals
    go_enter Tryz.func30, Tryz.ntmps30
    go_wp2_with fail
    refine (HQ.out _).mono ?_
    rintro e w1 ⟨rfl, hb1⟩
    have HW1 := Lib.hid hb1
    clear hb1 HQ
    go_wp2_with fail
    refine (HC.out _).mono ?_
    rintro e w2 ⟨rfl, hb2⟩
    have HW2 := Lib.hid (below_chain HW1.out hb2)
    have hmk := HMk.out
    clear hb2 HW1 HC
    go_wp2_with fail
    refine (HV.out _ (HT.out.below HW2.out)).mono ?_
    rintro e w3 ⟨m, u, s, rfl, hn3, hm0, hmu, hmb, hxu, hb3⟩
    have hb4 := below_alloc' w3 (.cells #[.bool false, s, .int .i64 (L + (u : Int))] 46)
    have HN4 := Lib.hid (hn3.below hb4)
    have HW4 := Lib.hid (below_chain (below_chain HW2.out hb3) hb4)
    have HY4 : Hid (Box3 (w3.alloc (.cells #[.bool false, s, .int .i64 (L + (u : Int))] 46)) w3.heap.size (.bool false) s (.int .i64 (L + (u : Int)))) := Lib.hid ⟨by simp, by simp, by simp, by simp, by simp, by simp, by simp⟩
    have HM := Lib.hid (show m ≠ 0 ∧ m * 2 ^ (u + 1) = 2 * vP fmD z ∧ blen m ≤ 64 ∧ L + (u : Int) ≤ 1026 from ⟨hm0, hmu, hmb, hxu⟩)
    obtain ⟨A1, c1, rfl, hc1, hr1⟩ := hn3
    obtain ⟨n1, hn1⟩ : ∃ n, (toL m).length = n := ⟨_, rfl⟩
    rw [hn1] at HN4 HW4 HY4 ⊢
    obtain ⟨y0, y1, y2, _⟩ := HY4.out
    clear hb3 hb4 hc1 hr1 hn1 hm0 hmu hmb hxu HV HW2 hmk
    go_wp2_with fail
    obtain ⟨w4, hw4⟩ : ∃ w4, w3.alloc (.cells #[.bool false, .slice A1 n1 c1, .int .i64 (L + (u : Int))] 46) = w4 := ⟨_, rfl⟩
    obtain ⟨gv, hgv⟩ : ∃ g, w3.heap.size = g := ⟨_, rfl⟩
    rw [hw4] at HN4 HW4 HY4 ⊢
    rw [hgv] at HY4 ⊢
    clear hw4 hgv y0 y1 y2
    refine (tens_walk _ m (L + (u : Int)) w4 HN4.out HM.out.1 HM.out.2.2.1 (by omega) (by have := HM.out; omega)).mono ?_
    rintro e w5 ⟨t, rfl, htn, ht1, ht2, hb5⟩
    have HTn2 := Lib.hid (HTn.out m u t HM.out.2.1 htn)
    have HN5 := Lib.hid (HN4.out.below hb5)
    have HY5 := Lib.hid (HY4.out.below hb5)
    have HW5 := Lib.hid (below_chain HW4.out hb5)
    obtain ⟨y0, y1, y2, _⟩ := HY5.out
    obtain ⟨q, hq⟩ : ∃ q : Int, t - n + 1 = q := ⟨_, rfl⟩
    have p1 : IntKind.i64.wrap (t - (n : Int)) = t - (n : Int) := by have := HN.out; rw [IntKind.wrap_i64]; omega
    have p2 : IntKind.i64.wrap (t - (n : Int) + 1) = q := by have := HN.out; rw [IntKind.wrap_i64]; omega
    have hqb : -1300 ≤ q ∧ q ≤ 500 := by have := HN.out; omega
    have HQq := Lib.hid hq
    have HTb := Lib.hid (show -430 ≤ t ∧ t ≤ 430 from ⟨ht1, ht2⟩)
    clear htn hb5 HN4 HY4 HW4 HTn hq
    go_wp2_with fail
    refine (in10_walk _ m (L + (u : Int)) q w5 HN5.out HM.out.2.2.1 (by omega) (by have := HM.out; omega) (by omega) (by omega)).mono ?_
    rintro e w6 ⟨va, vb, rfl, ha6, hb6, hk6⟩
    have hb7 := below_alloc' w6 (.cells #[va, vb] 109)
    obtain ⟨A, hA⟩ : ∃ A, inA m (L + (u : Int)) q = A := ⟨_, rfl⟩
    obtain ⟨B, hB⟩ : ∃ B, inB (L + (u : Int)) q = B := ⟨_, rfl⟩
    obtain ⟨N, hN⟩ : ∃ N, rnd A B = N := ⟨_, rfl⟩
    have hrn := HRn.out m u q HM.out.2.1
    rw [hA, hB, hN] at hrn
    rw [hA] at ha6
    rw [hB] at hb6
    have hAb : blen A ≤ 7601 := by rw [← hA]; exact (inA_blen HM.out.2.2.1 (by have := HM.out; omega) (by omega)).2.2
    have hBb : blen B ≤ 7601 := by rw [← hB]; exact (inB_blen (by omega) (by omega)).2
    have hB0 : 0 < B := by rw [← hB]; exact inB_pos _ _
    have HA7 := Lib.hid (ha6.below hb7)
    have HB7 := Lib.hid (hb6.below hb7)
    have HW7 := Lib.hid (below_chain (below_chain HW5.out hk6) hb7)
    have hX7 : Box2 (w6.alloc (.cells #[va, vb] 109)) w6.heap.size va vb := ⟨by simp, by simp, by simp, by simp, by simp⟩
    have HX7 := Lib.hid hX7
    have HAB := Lib.hid (show blen A ≤ 7601 ∧ (toL B).length ≤ 8192 ∧ B ≠ 0 from ⟨hAb, by rw [toL_length]; omega, by omega⟩)
    have hsz := nr_size HZ0.out HTn2.out (n - 1)
    have hnn : t - ((n - 1 : Nat) : Int) = q := by have := HN.out; have := HQq.out; omega
    rw [hnn, ← hrn, show n - 1 + 1 = n by have := HN.out; omega] at hsz
    have HSz := Lib.hid hsz
    have HPN := Lib.hid (HP.out t N HTn2.out HTb.out.1 HTb.out.2 (by rw [HQq.out]; exact hrn.symm))
    obtain ⟨Aa, ca, rfl, hca, hra⟩ := ha6
    obtain ⟨Ab, cb, rfl, hcb, hrb⟩ := hb6
    obtain ⟨na, hna⟩ : ∃ n, (toL A).length = n := ⟨_, rfl⟩
    obtain ⟨nb, hnb⟩ : ∃ n, (toL B).length = n := ⟨_, rfl⟩
    rw [hnb, hna] at HX7 HW7 ⊢
    rw [hna] at HA7
    rw [hnb] at HB7
    rw [hnb] at HA7
    rw [hna] at HB7
    obtain ⟨x0, x1, _⟩ := HX7.out
    clear hk6 hb7 hX7 hca hra hcb hrb hna hnb hA hB hAb hBb hB0 y0 y1 y2 HY5 HN5 HW5 HP HRn HTn2 hrn hsz hnn p1 p2 hqb HM
    go_wp2_with fail
    obtain ⟨w7, hw7⟩ : ∃ w7, w6.alloc (.cells #[.slice Aa na ca, .slice Ab nb cb] 109) = w7 := ⟨_, rfl⟩
    obtain ⟨gr, hgr⟩ : ∃ g, w6.heap.size = g := ⟨_, rfl⟩
    rw [hw7] at HA7 HB7 HW7 HX7 ⊢
    rw [hgr] at HX7 ⊢
    clear hw7 hgr x0 x1
    refine (neardiv_walk _ _ A B w7 HA7.out HB7.out HAB.out.2.2 (by have := HAB.out; omega) HAB.out.2.1).mono ?_
    rintro e w8 ⟨s8, rfl, hn8, hb8⟩
    rw [hN] at hn8
    have hb9 := below_alloc' w8 (.cells #[.bool false, s8] 44)
    have HN9 := Lib.hid (hn8.below hb9)
    have HW9 := Lib.hid (below_chain (below_chain HW7.out hb8) hb9)
    have hX9 : Box2 (w8.alloc (.cells #[.bool false, s8] 44)) w8.heap.size (.bool false) s8 := ⟨by simp, by simp, by simp, by simp, by simp⟩
    have HX9 := Lib.hid hX9
    obtain ⟨A8, c8, rfl, hc8, hr8⟩ := hn8
    obtain ⟨n8, hn8⟩ : ∃ n, (toL N).length = n := ⟨_, rfl⟩
    rw [hn8] at HN9 HW9 HX9 ⊢
    obtain ⟨x0, x1, _⟩ := HX9.out
    clear hb8 hb9 hX9 hc8 hr8 hn8 hN HA7 HB7 HW7 HX7 HAB
    go_wp2_with fail
    obtain ⟨w9, hw9⟩ : ∃ w9, w8.alloc (.cells #[.bool false, .slice A8 n8 c8] 44) = w9 := ⟨_, rfl⟩
    rw [hw9] at HN9 HW9 ⊢
    clear hw9 x0 x1 HX9
    refine (text_walk _ N (n + 1) w9 HN9.out (by have := HSz.out.2; have := Nat.pow_lt_pow_right (show 1 < 10 by omega) (show n < n + 1 by omega); omega) (by have := HN.out; omega) (by omega)).mono ?_
    rintro e w10 ⟨rfl, hb10⟩
    have HW10 := Lib.hid (below_chain HW9.out hb10)
    obtain ⟨f1, f2, _, _⟩ := dg_facts HN.out.1 HSz.out.1 HSz.out.2 t
    have hxb : -440 ≤ dgX N n t ∧ dgX N n t ≤ 440 := by have := HTb.out; unfold dgX; split <;> omega
    have hpl : (bs (ptd (dgD N n))).size ≤ 900 := by
      have := HN.out
      rw [bs_size]; unfold ptd
      split
      · omega
      · simp; omega
    have hpl2 : (bs sg ++ bs (ptd (dgD N n))).size ≤ 901 := by rw [ByteArray.size_append]; omega
    have hpl3 : (bs sg ++ bs (ptd (dgD N n)) ++ (⟨#[101]⟩ : ByteArray)).size ≤ 902 := by rw [ByteArray.size_append]; have : (⟨#[101]⟩ : ByteArray).size = 1 := rfl; omega
    have hpl4 : (bs (Lib.itoa (dgX N n t))).size ≤ 20 := by rw [bs_size]; exact itoa_len _ (by omega) (by omega)
    have hs1 : (⟨#[101]⟩ : ByteArray).size = 1 := rfl
    have HPt := Lib.hid (fun W => pointed_walk (dgD N n) (by have := HN.out; omega) (by have := HN.out; omega) W)
    have HIt := Lib.hid (fun W h => itoa_walk (dgX N n t) (by omega) (by omega) W h)
    have HPD := Lib.hid (show bs sg ++ bs (ptd (dgD N n)) ++ (⟨#[101]⟩ : ByteArray) ++ bs (Lib.itoa (dgX N n t)) = bs (sg ++ (ptd (dgD N n) ++ [101] ++ Lib.itoa (dgX N n t))) by
      rw [show (⟨#[101]⟩ : ByteArray) = bs [101] from rfl, bs_append, bs_append, bs_append]; simp)
    have hdl : (bs (Lib.decDigits N)).size = (Lib.decDigits N).length := bs_size _
    by_cases hbig : 10 ^ n ≤ N
    · have hlen : (Lib.decDigits N).length = n + 1 := digs_len hbig (by have := HSz.out.2; have := Nat.pow_lt_pow_right (show 1 < 10 by omega) (show n < n + 1 by omega); omega)
      have hD : bs (dgD N n) = (bs (Lib.decDigits N)).extract 0 n := by unfold dgD; rw [if_pos hbig, bs_take]
      have hX : dgX N n t = t + 1 := by unfold dgX; rw [if_pos hbig]
      rw [hD] at HPt
      obtain ⟨P, hP⟩ : ∃ P, bs (ptd (dgD N n)) = P := ⟨_, rfl⟩
      obtain ⟨I, hI⟩ : ∃ I, bs (Lib.itoa (dgX N n t)) = I := ⟨_, rfl⟩
      rw [hP] at HPt HPD hpl hpl2 hpl3
      rw [hI] at HIt HPD hpl4
      obtain ⟨x, hx⟩ : ∃ x, dgX N n t = x := ⟨_, rfl⟩
      rw [hx] at hX HIt hxb
      rw [show (⟨(Lib.decDigits N).toArray⟩ : ByteArray) = bs (Lib.decDigits N) from rfl]
      obtain ⟨S, hS⟩ : ∃ S, bs (Lib.decDigits N) = S := ⟨_, rfl⟩
      rw [hS] at HPt hdl ⊢
      have hSs : S.size = n + 1 := by omega
      obtain ⟨G, hG⟩ : ∃ G, bs sg = G := ⟨_, rfl⟩
      rw [hG] at HMi HPD hsl hpl2 hpl3
      have k1 : (n : Int) < (S.size : Int) := by omega
      have k2 : (n : Int) ≤ (S.size : Int) := by omega
      have k3 : IntKind.i64.wrap (t + 1) = x := by rw [IntKind.wrap_i64]; have := HTb.out; omega
      clear hb10 HN9 HW9 HSz hdl hlen hD hX hP hI hx hS hSs hG f1 f2 hbig
      go_wp2_with fail
      refine (HMi.out _).mono ?_
      rintro e w11 ⟨rfl, hw11⟩
      have h := hw11.symm
      subst h
      clear hw11
      go_wp2_with fail
      refine (HPt.out _).mono ?_
      rintro e w12 ⟨rfl, hb12⟩
      have HW12 := Lib.hid (below_chain HW10.out hb12)
      clear hb12 HW10
      go_wp2_with fail
      refine (HIt.out _ (H10.out.below HW12.out)).mono ?_
      rintro e w13 ⟨rfl, hb13⟩
      have HW13 := Lib.hid (below_chain HW12.out hb13)
      clear hb13 HW12
      go_wp2
      go_ret2
      exact ⟨_, by rw [← HPD.out]; rfl, HPN.out, HW13.out⟩
    · have hD : dgD N n = Lib.decDigits N := by unfold dgD; rw [if_neg hbig]
      have hX : dgX N n t = t := by unfold dgX; rw [if_neg hbig]
      rw [hD] at f1
      rw [hD] at HPt
      rw [hX] at HIt HPD hpl4 HPN
      rw [hD] at HPD hpl hpl2 hpl3 HPN
      rw [show (⟨(Lib.decDigits N).toArray⟩ : ByteArray) = bs (Lib.decDigits N) from rfl]
      obtain ⟨P, hP⟩ : ∃ P, bs (ptd (Lib.decDigits N)) = P := ⟨_, rfl⟩
      obtain ⟨I, hI⟩ : ∃ I, bs (Lib.itoa t) = I := ⟨_, rfl⟩
      rw [hP] at HPt HPD hpl hpl2 hpl3
      rw [hI] at HIt HPD hpl4
      obtain ⟨S, hS⟩ : ∃ S, bs (Lib.decDigits N) = S := ⟨_, rfl⟩
      rw [hS] at HPt hdl ⊢
      have hSs : S.size = n := by omega
      obtain ⟨G, hG⟩ : ∃ G, bs sg = G := ⟨_, rfl⟩
      rw [hG] at HMi HPD hsl hpl2 hpl3
      have k1 : ¬ (n : Int) < (S.size : Int) := by omega
      clear hb10 HN9 HW9 HSz hdl hD hX hP hI hS hSs hG f1 f2 hbig hxb
      go_wp2_with fail
      refine (HMi.out _).mono ?_
      rintro e w11 ⟨rfl, hw11⟩
      have h := hw11.symm
      subst h
      clear hw11
      go_wp2_with fail
      refine (HPt.out _).mono ?_
      rintro e w12 ⟨rfl, hb12⟩
      have HW12 := Lib.hid (below_chain HW10.out hb12)
      clear hb12 HW10
      go_wp2_with fail
      refine (HIt.out _ (H10.out.below HW12.out)).mono ?_
      rintro e w13 ⟨rfl, hb13⟩
      have HW13 := Lib.hid (below_chain HW12.out hb13)
      clear hb13 HW12
      go_wp2
      go_ret2
      exact ⟨_, by rw [← HPD.out]; rfl, HPN.out, HW13.out⟩

set_option maxRecDepth 100000 in
set_option maxHeartbeats 1000000 in
/-- Digits of every pattern, to whatever count. -/
theorem ddg_any (f : Fm) (hf : f.ok) (b : Nat) (hb : b < 2 ^ (f.S + 1)) (n : Int) (w : World) (ht : Tab64 w) (h10 : Tab10 w) :
    Calls Tryz.prog 30 #[.int .i64 (fmt f), .int .u64 (b : Int), .int .i64 n] w fun e w' => ∃ (T : List UInt8) (k : Int), e = .returned (.tuple #[.string (bs T), .int .i64 k]) ∧ DgAns f b n T k ∧ Below w.heap.size w w' := by
  by_cases hbad : n < 1 ∨ 800 < n
  · have HQ := Lib.hid (quiet_any f hf w)
    have HP := Lib.hid (dgAns_bad (f := f) (b := b) hbad)
    obtain ⟨FF, hFF⟩ : ∃ FF, fmt f = FF := ⟨_, rfl⟩
    obtain ⟨qt, hqt⟩ : ∃ qt, f.quiet = qt := ⟨_, rfl⟩
    rw [hFF, hqt] at HQ
    rw [hFF]
    clear hFF hqt hb ht h10
    by_cases h1 : n < 1
    · clear hbad
      go_enter Tryz.func30, Tryz.ntmps30
      go_wp2_with fail
      refine HQ.out.mono ?_
      rintro e w1 ⟨rfl, hb1⟩
      go_wp2
      go_ret2
      exact ⟨[], 1, rfl, HP.out, hb1⟩
    · have h2 : 800 < n := hbad.resolve_left h1
      have h3 : decide (n < 1) = false := decide_eq_false h1
      clear hbad
      go_enter Tryz.func30, Tryz.ntmps30
      go_wp2_with fail
      refine HQ.out.mono ?_
      rintro e w1 ⟨rfl, hb1⟩
      go_wp2
      go_ret2
      exact ⟨[], 1, rfl, HP.out, hb1⟩
  by_cases hcl : f.inf ≤ b % 2 ^ f.S
  · have HQ := Lib.hid (quiet_any f hf w)
    have HC := Lib.hid (fun W => classOf_any f hf b hb W)
    have HP := Lib.hid (dgAns_cls (f := f) (b := b) hbad hcl)
    have hc := (cls_inf hf (b % 2 ^ f.S)).2 hcl
    obtain ⟨FF, hFF⟩ : ∃ FF, fmt f = FF := ⟨_, rfl⟩
    obtain ⟨qt, hqt⟩ : ∃ qt, f.quiet = qt := ⟨_, rfl⟩
    rw [hFF, hqt] at HQ
    rw [hFF] at HC
    rw [hFF]
    obtain ⟨c, hcc⟩ : ∃ c, clsF f (b % 2 ^ f.S) = c := ⟨_, rfl⟩
    rw [hcc] at HC hc
    have h1 : ¬ n < 1 := fun h => hbad (.inl h)
    have h2 : ¬ 800 < n := fun h => hbad (.inr h)
    have h3 : decide (n < 1) = false := decide_eq_false h1
    clear hFF hqt hb ht h10 hcc hbad hcl
    rcases hc with rfl | rfl
    all_goals
      go_enter Tryz.func30, Tryz.ntmps30
      go_wp2_with fail
      refine HQ.out.mono ?_
      rintro e w1 ⟨rfl, hb1⟩
      have HW1 := Lib.hid hb1
      clear hb1
      go_wp2_with fail
      refine (HC.out _).mono ?_
      rintro e w2 ⟨rfl, hb2⟩
      go_wp2
      go_ret2
      exact ⟨[], 6, rfl, HP.out, below_chain HW1.out hb2⟩
  obtain ⟨k, rfl⟩ := Int.eq_ofNat_of_zero_le (show 0 ≤ n by omega)
  rcases hf with h | h <;> subst h
  · exact (ddg_S b hb k (by omega) (by omega) hcl w ht h10).mono fun e w' ⟨T, h1, h2, h3⟩ => ⟨T, 0, h1, dgAns_ok (by omega) (by omega) hcl h2, h3⟩
  · exact (ddg_D b hb k (by omega) (by omega) hcl w ht h10).mono fun e w' ⟨T, h1, h2, h3⟩ => ⟨T, 0, h1, dgAns_ok (by omega) (by omega) hcl h2, h3⟩
end Go.Proofs.YtmfjimmodaofdaaGreatDoor
