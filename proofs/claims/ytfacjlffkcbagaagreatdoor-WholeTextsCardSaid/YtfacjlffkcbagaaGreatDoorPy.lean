/- Plain facts: the digits that stand in a text; the text of Digits read back, its digits counted. -/
import Derived.Test.YtfacjlffkcbagaaGreatDoorEr
namespace Go.Proofs.YtfacjlffkcbagaaGreatDoor
open Go.RowKit

/-- The law's count of digits: one byte more. -/
def pkD (d : List UInt8) (c : UInt8) : List UInt8 := if isDec c = true ∧ ¬ (d = [] ∧ c = 48) then d ++ [c] else d
/-- The digits ahead of an e, without noughts in front; none behind. -/
def uptoE (T : List UInt8) : List UInt8 := T.takeWhile (· != 101)
def digS (T : List UInt8) : List UInt8 := tl0 ((uptoE T).foldl pkD [])
theorem pk_more (D : List UInt8) (hD : D.all isDec = true) : ∀ d : List UInt8, d ≠ [] → D.foldl pkD d = d ++ D := by
  induction D with
  | nil => intro d _; simp
  | cons c t ih =>
    intro d hd
    rw [List.all_cons, Bool.and_eq_true] at hD
    rw [List.foldl_cons, show pkD d c = d ++ [c] by unfold pkD; rw [if_pos ⟨hD.1, fun h => hd h.1⟩], ih hD.2 _ (by simp), List.append_assoc]; rfl
theorem pk_all (D : List UInt8) (hD : D.all isDec = true) : D.foldl pkD [] = strip0 D := by
  induction D with
  | nil => rfl
  | cons c t ih =>
    rw [List.all_cons, Bool.and_eq_true] at hD
    rw [List.foldl_cons]
    by_cases hc : c = 48
    · subst hc
      rw [show pkD [] 48 = [] by unfold pkD; rw [if_neg (fun h => h.2 ⟨rfl, rfl⟩)], ih hD.2]
      unfold strip0
      rw [List.dropWhile_cons_of_pos (by decide)]
    · rw [show pkD [] c = [c] by unfold pkD; rw [if_pos ⟨hD.1, fun h => hc h.2⟩]; rfl, pk_more t hD.2 _ (by simp)]
      unfold strip0
      rw [List.dropWhile_cons_of_neg (by simpa using hc)]; rfl
theorem pk_skip (c : UInt8) (hc : isDec c = false) (d : List UInt8) : pkD d c = d := by unfold pkD; rw [if_neg (fun h => by rw [hc] at h; exact absurd h.1 (by decide))]
theorem sg_pk {S : List UInt8} (hS : sgOk S) (d : List UInt8) : S.foldl pkD d = d := by
  rcases hS with e | e | e <;> rw [e]
  · rfl
  · exact pk_skip 43 (by decide) d
  · exact pk_skip 45 (by decide) d
theorem ptd_pk {D : List UInt8} (hD : D.all isDec = true) : (ptd D).foldl pkD [] = strip0 D := by
  unfold ptd
  split
  · exact pk_all D hD
  · have hd := List.take_append_drop 1 D
    have h1 := pk_all D hD
    rw [← hd, List.foldl_append] at h1
    rw [List.foldl_append, List.foldl_append, List.foldl_cons, List.foldl_nil, pk_skip 46 (by decide), h1, hd]
theorem takeWhile_stop (p : UInt8 → Bool) (A R : List UInt8) (c : UInt8) (hA : ∀ x ∈ A, p x = true) (hc : p c = false) : (A ++ c :: R).takeWhile p = A := by
  induction A with
  | nil => rw [List.nil_append, List.takeWhile_cons_of_neg (by rw [hc]; decide)]
  | cons a t ih =>
    rw [List.cons_append, List.takeWhile_cons_of_pos (hA a (by simp)), ih fun x hx => hA x (List.mem_cons_of_mem _ hx)]
theorem ptd_mem {D : List UInt8} (hD : D.all isDec = true) {x : UInt8} (hx : x ∈ ptd D) : x ≠ 101 := by
  have hd : ∀ y ∈ D, y ≠ 101 := fun y hy e => by have := List.all_eq_true.1 hD y hy; rw [e] at this; exact absurd this (by decide)
  unfold ptd at hx
  split at hx
  · exact hd x hx
  · rw [List.append_assoc, List.mem_append, List.mem_append, List.mem_singleton] at hx
    rcases hx with h | h | h
    · exact hd x (List.mem_of_mem_take h)
    · rw [h]; decide
    · exact hd x (List.mem_of_mem_drop h)
theorem sg_mem {S : List UInt8} (hS : sgOk S) {x : UInt8} (hx : x ∈ S) : x ≠ 101 := by
  rcases hS with e | e | e <;> rw [e] at hx
  · simp at hx
  · simp only [List.mem_singleton] at hx; rw [hx]; decide
  · simp only [List.mem_singleton] at hx; rw [hx]; decide
theorem sci_upto {S D R : List UInt8} (hS : sgOk S) (hD : D.all isDec = true) : uptoE (S ++ (ptd D ++ [101] ++ R)) = S ++ ptd D := by
  have e : S ++ (ptd D ++ [101] ++ R) = (S ++ ptd D) ++ 101 :: R := by simp
  unfold uptoE
  rw [e]
  refine takeWhile_stop _ _ _ _ (fun x hx => ?_) rfl
  rw [bne_iff_ne]
  rcases List.mem_append.1 hx with h | h
  · exact sg_mem hS h
  · exact ptd_mem hD h
theorem sci_digS {S D R : List UInt8} (hS : sgOk S) (hD : D.all isDec = true) : digS (S ++ (ptd D ++ [101] ++ R)) = tl0 (strip0 D) := by
  unfold digS
  rw [sci_upto hS hD, List.foldl_append, sg_pk hS, ptd_pk hD]
/-- What Digits answers: a sign, digits (one at least), an exponent. -/
theorem dg_text {f : Fm} {b n : Nat} (hn : 1 ≤ n) {T : List UInt8} (h : DgOk f b n T) : ∃ (D : List UInt8) (y : Int), T = (if 2 ^ f.S ≤ b then [45] else []) ++ (ptd D ++ [101] ++ Lib.itoa y) ∧ D.length = n ∧ D.all isDec = true ∧ -440 ≤ y ∧ y ≤ 440 := by
  by_cases h0 : b % 2 ^ f.S = 0
  · exact ⟨_, 0, h.1 h0, by simp, zeros_dec n, by omega, by omega⟩
  · obtain ⟨t, h1, h2, h3, h4⟩ := h.2 h0
    have hsz := nr_size h0 h1 (n - 1)
    rw [show t - ((n - 1 : Nat) : Int) = t - n + 1 by omega, show n - 1 + 1 = n by omega] at hsz
    obtain ⟨f1, f2, _, _⟩ := dg_facts hn hsz.1 hsz.2 t
    exact ⟨_, _, h4, f1, f2, by unfold dgX; split <;> omega, by unfold dgX; split <;> omega⟩
theorem tl0_le (l : List UInt8) : (tl0 l).length ≤ l.length := tl0_len l
/-- No more than n digits stand in it. -/
theorem dg_count {f : Fm} {b n : Nat} (hn : 1 ≤ n) {T : List UInt8} (h : DgOk f b n T) : (digS T).length ≤ n := by
  obtain ⟨D, y, rfl, h1, h2, _⟩ := dg_text hn h
  rw [sci_digS (sgS_ok b (2 ^ f.S)).1 h2]
  exact Nat.le_trans (tl0_len _) (Nat.le_trans (strip0_len D) (by omega))
theorem dg_len {f : Fm} {b n : Nat} (hn : 1 ≤ n) (hn2 : n ≤ 800) {T : List UInt8} (h : DgOk f b n T) : T.length ≤ 1000 := by
  obtain ⟨D, y, rfl, h1, _, h3, h4⟩ := dg_text hn h
  have := itoa_len y (by omega) (by omega)
  have hs : (if 2 ^ f.S ≤ b then [45] else [] : List UInt8).length ≤ 1 := by split <;> simp
  have hp : (ptd D).length ≤ n + 1 := by
    unfold ptd
    split
    · omega
    · simp only [List.length_append, List.length_take, List.length_drop, List.length_cons, List.length_nil]; omega
  simp only [List.length_append, List.length_cons, List.length_nil]
  omega
/-- It is a number's text; with digits enough it is read back as the pattern. -/
theorem dg_back {f : Fm} (hf : f.ok) {b n : Nat} (hb : b < 2 ^ (f.S + 1)) (hfin : ¬ f.inf ≤ b % 2 ^ f.S) (hn : 1 ≤ n) (hn2 : n ≤ 800) {T : List UInt8} (h : DgOk f b n T) {v : Nat} {k : Int} (hp : ParOk f (bs T) v k) : k = 0 ∧ (2 ^ f.P < 10 ^ (n - 1) → v = b) := by
  obtain ⟨s1, s2⟩ := sgS_ok b (2 ^ f.S)
  have hc := pat_cut f hb
  by_cases h0 : b % 2 ^ f.S = 0
  · have e := h.1 h0
    rw [e] at hp
    obtain ⟨h1, p, h2, _, h4⟩ := sci_form hp s1 (zeros_dec n) (by simp; omega) (by simp; omega) (by omega) (by omega)
    refine ⟨h1, fun _ => ?_⟩
    have hz : dcV (List.replicate n 48) = 0 := by have := zeros_dcV [] n; rwa [List.append_nil] at this
    rw [hz, show tn 0 ((0 : Int) - ((List.replicate n (48 : UInt8)).length : Int) + 1) = 0 from Nat.zero_mul _] at h2
    have := pat_none (td_pos _) h2
    subst this
    rw [s2, ← h0, hc] at h4
    exact h4
  · obtain ⟨t, h1, h2, h3, h4⟩ := h.2 h0
    have hq : t - ((n - 1 : Nat) : Int) = t - n + 1 := by omega
    have hsz := nr_size h0 h1 (n - 1)
    rw [hq, show n - 1 + 1 = n by omega] at hsz
    obtain ⟨f1, f2, _, j, f4, f5⟩ := dg_facts hn hsz.1 hsz.2 t
    have hxb : -440 ≤ dgX (nrN f (b % 2 ^ f.S) (t - n + 1)) n t ∧ dgX (nrN f (b % 2 ^ f.S) (t - n + 1)) n t ≤ 440 := by unfold dgX; split <;> omega
    rw [h4] at hp
    obtain ⟨p1, p, p2, _, p4⟩ := sci_form hp s1 f2 (by omega) (by omega) (by omega) (by omega)
    refine ⟨p1, fun hbig => ?_⟩
    have hpat := nr_pat hf h0 (by omega) h1.1 hbig
    rw [hq] at hpat
    rw [f1] at p2
    have := ((pat_same j (by omega) f5).1 hpat).unique p2
    subst this
    rw [s2, hc] at p4
    exact p4
theorem dg_one {T : List UInt8} {k : Int} (h : DgAns fmD 4607182418800017408 3 T k) : T = [49, 46, 48, 48, 101, 48] ∧ k = 0 := by
  unfold DgAns at h
  rw [if_neg (by omega), if_neg (by decide)] at h
  obtain ⟨hk, h⟩ := h
  refine ⟨?_, hk⟩
  rw [show (3 : Int).toNat = 3 from rfl] at h
  obtain ⟨t, h1, h2, h3, h4⟩ := h.2 (by decide)
  rw [show 4607182418800017408 % 2 ^ fmD.S = 4607182418800017408 from by decide] at h1 h4
  have ht := ten_unique h1 (show ufF fmD 0 ≤ 2 * vP fmD 4607182418800017408 * ufG 0 ∧ 2 * vP fmD 4607182418800017408 * ufG (0 + 1) < ufF fmD (0 + 1) from of_decide_eq_true (by kernel_rfl))
  subst ht
  have hN : nrN fmD 4607182418800017408 ((0 : Int) - ((3 : Nat) : Int) + 1) = 100 := of_decide_eq_true (by kernel_rfl)
  rw [hN] at h4
  have hD : dgD 100 3 = [49, 48, 48] := by
    unfold dgD
    rw [if_neg (by omega), Lib.decDigits, dif_neg (by omega), Lib.decDigits_two (by omega) (by omega)]; rfl
  have hX : dgX 100 3 0 = 0 := by unfold dgX; rw [if_neg (by omega)]
  rw [hD, hX, itoa_zero, if_neg (by decide)] at h4
  rw [h4]; rfl
theorem big_17 {f : Fm} (hf : f.ok) {n : Nat} (h : 17 ≤ n) : 2 ^ f.P < 10 ^ (n - 1) := by
  have h1 : f.P ≤ 53 := by rcases hf with h | h <;> subst h <;> decide
  have h2 : 2 ^ f.P ≤ 2 ^ 53 := Nat.pow_le_pow_right (by omega) h1
  have h3 : 10 ^ 16 ≤ 10 ^ (n - 1) := Nat.pow_le_pow_right (by omega) (by omega)
  have h4 : 2 ^ 53 < 10 ^ 16 := by decide
  omega
theorem big_9 {n : Nat} (h : 9 ≤ n) : 2 ^ fmS.P < 10 ^ (n - 1) := by
  have h3 : 10 ^ 8 ≤ 10 ^ (n - 1) := Nat.pow_le_pow_right (by omega) (by omega)
  have h4 : 2 ^ fmS.P < 10 ^ 8 := by decide
  omega
theorem itoa_abs (e : Int) : Lib.itoa e = (if e < 0 then [45] else []) ++ Lib.decDigits e.natAbs := by
  by_cases hy : e < 0
  · obtain ⟨u, hu⟩ : ∃ u : Nat, e = -(u : Int) := ⟨e.natAbs, by omega⟩
    rw [if_pos hy, hu, Lib.itoa_neg u (by omega), show (-(u : Int)).natAbs = u by omega]; rfl
  · obtain ⟨u, hu⟩ : ∃ u : Nat, e = (u : Int) := ⟨e.natAbs, by omega⟩
    rw [if_neg hy, hu, Lib.itoa_nonneg, show ((u : Int)).natAbs = u by omega]; rfl
end Go.Proofs.YtfacjlffkcbagaaGreatDoor
