/- Plain facts: what Parse reads in a text that is spelt as a sign, digits, a point and digits, an exponent; and in what Print lays out. · Plain facts: how the texts of numbers are cut by calc. No program in sight. -/
import Derived.Test.YtibjogbalmbeeaaGreatDoorY23
import Derived.Test.YtibjogbalmbeeaaGreatDoorY29
import Derived.Test.YtibjogbalmbeeaaGreatDoorY06

namespace Go.Proofs.YtibjogbalmbeeaaGreatDoor
open Go.RowKit

theorem all_dec {l : List UInt8} (h : l.all dgQ = true) : l.all isDec = true := by
  rw [List.all_eq_true] at h ⊢
  intro c hc
  obtain ⟨h1, h2, _⟩ := dgQ_val (h c hc)
  exact (isDec_iff c).2 ⟨h1, h2⟩
theorem by8_in {T A D R : List UInt8} (hT : T = A ++ (D ++ R)) {j : Nat} (hj : j < D.length) : by8 (bs T) (A.length + j) = D[j] := by
  subst hT
  rw [bs_by8, List.getD_eq_getElem?_getD, List.getElem?_append_right (Nat.le_add_right _ _), Nat.add_sub_cancel_left, List.getElem?_append_left hj, List.getElem?_eq_getElem hj]
  rfl
theorem by8_hd {T A R : List UInt8} {c : UInt8} (hT : T = A ++ c :: R) : by8 (bs T) A.length = c := by
  subst hT
  rw [bs_by8, List.getD_eq_getElem?_getD, List.getElem?_append_right (Nat.le_refl _), Nat.sub_self]
  rfl
theorem len_at {T A R : List UInt8} (hT : T = A ++ R) : (bs T).size = A.length + R.length := by rw [bs_size, hT, List.length_append]
/-- Digits end where they end. -/
theorem run_dec {T A D R : List UInt8} (hT : T = A ++ (D ++ R)) (hD : D.all isDec = true) (hR : ∀ c t, R = c :: t → isDec c = false) : dcE (bs T) A.length = A.length + D.length := by
  have hl := len_at hT
  rw [List.length_append] at hl
  refine runTo_of isDec _ _ _ _ (by omega) (by omega) (by omega) ?_ ?_
  · intro j h1 h2
    obtain ⟨i, rfl⟩ : ∃ i, j = A.length + i := ⟨j - A.length, by omega⟩
    rw [by8_in hT (show i < D.length by omega)]
    exact List.all_eq_true.1 hD _ (List.getElem_mem _)
  · rintro ⟨h1, h2⟩
    cases hR0 : R with
    | nil => rw [hR0] at hl; simp at hl; omega
    | cons c t =>
      have hT2 : T = (A ++ D) ++ c :: t := by rw [hT, hR0, List.append_assoc]
      have := by8_hd hT2
      rw [List.length_append] at this
      rw [this, hR c t hR0] at h2
      exact absurd h2 (by decide)
theorem ext_in {T A D R : List UInt8} (hT : T = A ++ (D ++ R)) : (bs T).extract A.length (A.length + D.length) = bs D := by
  rw [bs_ext, hT]; simp
def sgOk (S : List UInt8) : Prop := S = [] ∨ S = [43] ∨ S = [45]
theorem sg_form {T A S R : List UInt8} (hT : T = A ++ (S ++ R)) (hS : sgOk S) (hR : ∀ c t, R = c :: t → c ≠ 43 ∧ c ≠ 45) : sgI (bs T) A.length = A.length + S.length ∧ sgB (bs T) A.length = decide (S = [45]) := by
  have hl := len_at hT
  rw [List.length_append] at hl
  rcases hS with e | e | e
  · rw [e, List.nil_append] at hT
    rw [e] at hl
    unfold sgI sgB
    cases hR0 : R with
    | nil =>
      rw [hR0] at hl
      have : ¬ A.length < (bs T).size := by rw [hl]; simp
      rw [if_neg (fun h => this h.1), e, decide_eq_false this]
      exact ⟨rfl, rfl⟩
    | cons c t =>
      rw [hR0] at hT
      obtain ⟨h1, h2⟩ := hR c t hR0
      rw [by8_hd hT, if_neg (by rintro ⟨_, h | h⟩ <;> contradiction), e]
      refine ⟨rfl, ?_⟩
      rw [show (c == 45) = false from beq_eq_false_iff_ne.2 h2, Bool.and_false]; rfl
  · rw [e] at hT hl
    have h1 : A.length < (bs T).size := by rw [hl]; simp; omega
    unfold sgI sgB
    rw [by8_hd hT, if_pos ⟨h1, .inr rfl⟩, e, decide_eq_true h1]
    exact ⟨rfl, by decide⟩
  · rw [e] at hT hl
    have h1 : A.length < (bs T).size := by rw [hl]; simp; omega
    unfold sgI sgB
    rw [by8_hd hT, if_pos ⟨h1, .inl rfl⟩, e, decide_eq_true h1]
    exact ⟨rfl, by decide⟩
/-- An exponent's digits, vast at most. -/
theorem ev_form {T A X R : List UInt8} (hT : T = A ++ (X ++ R)) : ∀ m, m ≤ X.length → ev (bs T) A.length m = min (dcV (X.take m)) vast
  | 0, _ => rfl
  | m + 1, h => by
    have ih := ev_form hT m (by omega)
    have hb := by8_in hT (show m < X.length by omega)
    have e : X.take (m + 1) = X.take m ++ [X[m]] := by rw [List.take_add_one, List.getElem?_eq_getElem (by omega)]; rfl
    unfold ev
    rw [ih, hb, e, dcV_snoc]
    show min (10 * min (dcV (X.take m)) vast + dgV X[m]) vast = _
    unfold vast
    omega
def exT : Option (UInt8 × List UInt8 × List UInt8) → List UInt8
  | none => []
  | some (E, S, X) => E :: (S ++ X)
def exOk : Option (UInt8 × List UInt8 × List UInt8) → Prop
  | none => True
  | some (E, S, X) => (E = 101 ∨ E = 69) ∧ sgOk S ∧ X.all isDec = true ∧ X ≠ []
def exV : Option (UInt8 × List UInt8 × List UInt8) → Int
  | none => 0
  | some (_, S, X) => if S = [45] then -((min (dcV X) vast : Nat) : Int) else ((min (dcV X) vast : Nat) : Int)
theorem exV_some (E : UInt8) (S X : List UInt8) : exV (some (E, S, X)) = if S = [45] then -((min (dcV X) vast : Nat) : Int) else ((min (dcV X) vast : Nat) : Int) := rfl
theorem ex_form {T A : List UInt8} {ex : Option (UInt8 × List UInt8 × List UInt8)} (hT : T = A ++ exT ex) (hx : exOk ex) : expAt (bs T) A.length = some (exV ex, (bs T).size) := by
  have hl := len_at hT
  cases ex with
  | none =>
    have h0 : (bs T).size = A.length := by rw [hl]; rfl
    unfold expAt
    rw [if_pos (by unfold isE; rw [h0]; simp), h0]
    rfl
  | some p =>
    obtain ⟨E, S, X⟩ := p
    obtain ⟨hE, hS, hX, hX0⟩ := hx
    have hT0 : T = A ++ E :: (S ++ X) := hT
    have hlt : A.length < (bs T).size := by rw [hl]; show A.length < A.length + (S ++ X).length.succ; omega
    have hE1 : ¬ isE (bs T) A.length = false := by
      rw [(isE_iff _ _).2 ⟨hlt, by rw [by8_hd hT0]; exact hE⟩]; simp
    have hT1 : T = (A ++ [E]) ++ (S ++ X) := by rw [hT0]; simp
    have l1 : (A ++ [E]).length = A.length + 1 := by simp
    obtain ⟨g1, g2⟩ := sg_form hT1 hS (fun c t h => by
      have := List.all_eq_true.1 hX c (by rw [h]; simp)
      have := isDec_range c this
      constructor <;> (intro e; subst e; revert this; decide))
    rw [l1] at g1 g2
    have hT2 : T = ((A ++ [E]) ++ S) ++ (X ++ []) := by rw [hT1]; simp
    have l2 : ((A ++ [E]) ++ S).length = A.length + 1 + S.length := by simp; omega
    have g3 := run_dec hT2 hX (fun c t h => absurd h (by simp))
    have g4 := ev_form hT2 X.length (Nat.le_refl _)
    rw [l2] at g3 g4
    have hs : (bs T).size = A.length + 1 + S.length + X.length := by rw [bs_size, hT2]; simp; omega
    have hXl : X.length ≠ 0 := fun e => hX0 (List.length_eq_zero_iff.1 e)
    unfold expAt
    rw [if_neg hE1, g1, g2, g3, if_neg (by omega), hs, show A.length + 1 + S.length + X.length - (A.length + 1 + S.length) = X.length by omega, g4, List.take_length]
    rw [exV_some]
    by_cases e : S = [45]
    · rw [if_pos e, decide_eq_true e, if_pos rfl]
    · rw [if_neg e, decide_eq_false e, if_neg (by decide)]
def ptT : Option (List UInt8) → List UInt8
  | none => []
  | some P => 46 :: P
def ptD : Option (List UInt8) → List UInt8
  | none => []
  | some P => P
theorem ex_head {ex : Option (UInt8 × List UInt8 × List UInt8)} (hx : exOk ex) {c : UInt8} {t : List UInt8} (h : exT ex = c :: t) : isDec c = false ∧ c ≠ 46 := by
  cases ex with
  | none => exact absurd h (by simp [exT])
  | some p =>
    obtain ⟨E, S, X⟩ := p
    have e : E = c := (List.cons.inj h).1
    subst e
    rcases hx.1 with e | e <;> subst e <;> exact ⟨by decide, by decide⟩
theorem bs_dl (A : List UInt8) : (bs A).data.toList = A := by show A.toArray.toList = A; simp
theorem dec_form {T A W : List UInt8} {pt : Option (List UInt8)} {ex : Option (UInt8 × List UInt8 × List UInt8)} (hT : T = A ++ (W ++ (ptT pt ++ exT ex))) (hW : W.all isDec = true) (hP : (ptD pt).all isDec = true) (hne : W ++ ptD pt ≠ []) (hx : exOk ex) :
    decAt (bs T) A.length = some (strip0 (W ++ ptD pt), exV ex - ((ptD pt).length : Int)) := by
  cases pt with
  | none =>
    have hT1 : T = A ++ (W ++ exT ex) := by rw [hT]; rfl
    have hT2 : T = (A ++ W) ++ exT ex := by rw [hT1, List.append_assoc]
    have g1 := run_dec hT1 hW (fun c t h => (ex_head hx h).1)
    have g2 := ex_form hT2 hx
    rw [List.length_append] at g2
    have hq : ptQ (bs T) A.length = false := by
      unfold ptQ
      rw [g1]
      cases he : exT ex with
      | nil =>
        have := len_at hT2
        rw [he, List.length_append] at this
        rw [decide_eq_false (by rw [this]; simp)]; rfl
      | cons c t =>
        rw [he] at hT2
        have := by8_hd hT2
        rw [List.length_append] at this
        rw [this, show (c == 46) = false from beq_eq_false_iff_ne.2 (ex_head hx he).2, Bool.and_false]
    have hdW : dW (bs T) A.length = bs W := by unfold dW; rw [g1]; exact ext_in hT1
    have hdP : dP (bs T) A.length = bs [] := by unfold dP; rw [if_neg (by rw [hq]; decide)]; rfl
    have hdK : dK (bs T) A.length = A.length + W.length := by unfold dK; rw [if_neg (by rw [hq]; decide), g1]
    have hW0 : W.length ≠ 0 := fun e => hne (by rw [List.length_eq_zero_iff.1 e]; rfl)
    unfold decAt
    rw [hdW, hdP, hdK, g2, bs_size, bs_size, if_neg (fun h => hW0 h.1), bs_dl, bs_dl]
    simp only [Nat.lt_irrefl, if_false]
    rfl
  | some P =>
    have hT1 : T = A ++ (W ++ 46 :: (P ++ exT ex)) := by rw [hT]; rfl
    have hT2 : T = (A ++ W) ++ 46 :: (P ++ exT ex) := by rw [hT1, List.append_assoc]
    have hT3 : T = ((A ++ W) ++ [46]) ++ (P ++ exT ex) := by rw [hT2]; simp
    have hT4 : T = (((A ++ W) ++ [46]) ++ P) ++ exT ex := by rw [hT3]; simp
    have g1 := run_dec hT1 hW (fun c t h => by have := (List.cons.inj h).1; subst this; decide)
    have g2 := by8_hd hT2
    have g3 := run_dec hT3 hP (fun c t h => (ex_head hx h).1)
    have g4 := ex_form hT4 hx
    have hl := len_at hT2
    have l1 : ((A ++ W) ++ [46]).length = A.length + W.length + 1 := by simp; omega
    have l2 : (((A ++ W) ++ [46]) ++ P).length = A.length + W.length + 1 + P.length := by simp; omega
    have g5 := ext_in hT3
    rw [List.length_append] at g2
    rw [l1] at g3 g5
    rw [l2] at g4
    have hq : ptQ (bs T) A.length = true := (ptQ_iff _ _).2 ⟨by rw [g1, hl, List.length_append]; simp, by rw [g1]; exact g2⟩
    have hdW : dW (bs T) A.length = bs W := by unfold dW; rw [g1]; exact ext_in hT1
    have hdP : dP (bs T) A.length = bs P := by unfold dP; rw [if_pos hq, g1, g3]; exact g5
    have hdK : dK (bs T) A.length = A.length + W.length + 1 + P.length := by unfold dK; rw [if_pos hq, g1, g3]
    have hn : ¬ (W.length = 0 ∧ P.length = 0) := fun h => hne (by rw [List.length_eq_zero_iff.1 h.1]; exact List.length_eq_zero_iff.1 h.2)
    unfold decAt
    rw [hdW, hdP, hdK, g4, bs_size, bs_size, if_neg hn, bs_dl, bs_dl]
    simp only [Nat.lt_irrefl, if_false]
    rfl
/-- What a spelt number says. -/
theorem tok_form {T S W : List UInt8} {pt : Option (List UInt8)} {ex : Option (UInt8 × List UInt8 × List UInt8)} (hT : T = S ++ (W ++ (ptT pt ++ exT ex))) (hS : sgOk S) (hW : W.all isDec = true) (hP : (ptD pt).all isDec = true) (hne : W ++ ptD pt ≠ []) (hx : exOk ex) :
    tokOf (bs T) = some (2, decide (S = [45]), dcV (W ++ ptD pt), exV ex - ((ptD pt).length : Int)) := by
  obtain ⟨N, hN⟩ : ∃ N, W ++ (ptT pt ++ exT ex) = N := ⟨_, rfl⟩
  have hc : ∃ c t, N = c :: t ∧ c ≠ 43 ∧ c ≠ 45 ∧ c ≠ 110 ∧ c ≠ 105 := by
    cases hW0 : W with
    | cons c t =>
      have h1 := List.all_eq_true.1 hW c (by rw [hW0]; simp)
      have h2 := isDec_range c h1
      refine ⟨c, t ++ (ptT pt ++ exT ex), by rw [← hN, hW0]; rfl, ?_, ?_, ?_, ?_⟩ <;> (intro e; subst e; revert h2; decide)
    | nil =>
      cases hp : pt with
      | none => rw [hW0, hp] at hne; exact absurd rfl hne
      | some P => exact ⟨46, P ++ exT ex, by rw [← hN, hW0, hp]; rfl, by decide, by decide, by decide, by decide⟩
  obtain ⟨c, t, hNc, c1, c2, c3, c4⟩ := hc
  have hT0 : T = [] ++ (S ++ N) := by rw [hT, hN]; rfl
  obtain ⟨g1, g2⟩ := sg_form hT0 hS (fun c' t' h => by rw [hNc] at h; obtain ⟨rfl, _⟩ := List.cons.inj h; exact ⟨c1, c2⟩)
  simp only [List.length_nil, Nat.zero_add] at g1 g2
  have hl := len_at hT0
  rw [hN] at hT
  have h1 : bs T ≠ nanS := by
    intro e
    have h0 : by8 (bs T) 0 = 110 := by rw [e]; rfl
    rcases hS with e | e | e
    · rw [e, hNc] at hT
      have := by8_hd (A := []) hT
      rw [List.length_nil, h0] at this
      exact c3 this.symm
    · rw [e] at hT
      have := by8_hd (A := []) hT
      rw [List.length_nil, h0] at this
      exact absurd this (by decide)
    · rw [e] at hT
      have := by8_hd (A := []) hT
      rw [List.length_nil, h0] at this
      exact absurd this (by decide)
  have h2 : (bs T).extract S.length (bs T).size ≠ infS := by
    intro e
    have hx2 : (bs T).extract S.length (bs T).size = bs N := by
      have h3 := ext_in (A := S) (D := N) (R := []) (T := T) (by rw [hT]; simp)
      rwa [show S.length + N.length = (bs T).size by rw [hl]; simp] at h3
    rw [hx2] at e
    have h0 : by8 (bs N) 0 = 105 := by rw [e]; rfl
    have := by8_hd (A := []) hNc
    rw [List.length_nil, h0] at this
    exact c4 this.symm
  have h3 := dec_form (hN ▸ hT) hW hP hne hx
  unfold tokOf
  rw [if_neg h1, g1, g2, if_neg h2, h3, Option.map_some]
  show some (2, decide (S = [45]), dcV (strip0 (W ++ ptD pt)), _) = _
  rw [show dcV (strip0 (W ++ ptD pt)) = dcV (W ++ ptD pt) from dcV_drop _]
/-- What Parse answers of a spelt number. -/
theorem par_form {f : Fm} {T S W : List UInt8} {pt : Option (List UInt8)} {ex : Option (UInt8 × List UInt8 × List UInt8)} {v : Nat} {k : Int} (h : ParOk f (bs T) v k) (hT : T = S ++ (W ++ (ptT pt ++ exT ex))) (hS : sgOk S) (hW : W.all isDec = true) (hP : (ptD pt).all isDec = true) (hne : W ++ ptD pt ≠ []) (hx : exOk ex) (hl : T.length ≤ 4000) :
    k = 0 ∧ ∃ p, IsPat f (tn (dcV (W ++ ptD pt)) (exV ex - ((ptD pt).length : Int))) (td (exV ex - ((ptD pt).length : Int))) p ∧ p ≤ f.inf ∧ v = sgn f (decide (S = [45])) p := by
  unfold ParOk at h
  rw [if_neg (by rw [bs_size]; omega), tok_form hT hS hW hP hne hx] at h
  obtain ⟨h1, h2⟩ := h
  unfold TokP at h1
  rw [if_neg (by omega), if_neg (by omega)] at h1
  exact ⟨h2, h1⟩
/-- The same number, spelt otherwise. -/
theorem ten_same {m m' : Nat} {x x' : Int} {k : Nat} (hx : x' = x + (k : Int)) (hm : m = m' * 10 ^ k) : tn m x * td x' = tn m' x' * td x := by
  unfold tn td
  subst hm
  have e : 10 ^ k * 10 ^ x.toNat * 10 ^ (-x').toNat = 10 ^ x'.toNat * 10 ^ (-x).toNat := by
    rw [← Nat.pow_add, ← Nat.pow_add, ← Nat.pow_add]; congr 1; omega
  calc m' * 10 ^ k * 10 ^ x.toNat * 10 ^ (-x').toNat = m' * (10 ^ k * 10 ^ x.toNat * 10 ^ (-x').toNat) := by ac_rfl
    _ = _ := by rw [e]; ac_rfl
theorem pat_same {f : Fm} {m m' : Nat} {x x' : Int} (k : Nat) (hx : x' = x + (k : Int)) (hm : m = m' * 10 ^ k) {p : Nat} : IsPat f (tn m x) (td x) p ↔ IsPat f (tn m' x') (td x') p :=
  ⟨fun h => h.same (td_pos x) (td_pos x') (ten_same hx hm), fun h => h.same (td_pos x') (td_pos x) (ten_same hx hm).symm⟩
/-- Noughts at the end. -/
theorem dcV_zeros (l : List UInt8) (k : Nat) : dcV (l ++ List.replicate k 48) = dcV l * 10 ^ k := by
  have h0 : ∀ k, dcV (List.replicate k 48) = 0 := fun k => by
    induction k with
    | zero => rfl
    | succ k ih => rw [List.replicate_succ, dcV_zero_cons, ih]
  rw [dcV_append, h0, List.length_replicate, Nat.add_zero]
theorem zeros_dcV (l : List UInt8) (k : Nat) : dcV (List.replicate k 48 ++ l) = dcV l := by
  induction k with
  | zero => rfl
  | succ k ih => rw [List.replicate_succ, List.cons_append, dcV_zero_cons, ih]
theorem zeros_dec (k : Nat) : (List.replicate k (48 : UInt8)).all isDec = true := by
  rw [List.all_eq_true]
  intro c hc
  rw [List.eq_of_mem_replicate hc]
  decide
theorem drop_zeros (l : List UInt8) : ∃ k, l = List.replicate k 48 ++ l.dropWhile (· == 48) := by
  induction l with
  | nil => exact ⟨0, rfl⟩
  | cons c t ih =>
    rw [List.dropWhile_cons]
    split
    · rename_i h
      obtain ⟨k, hk⟩ := ih
      refine ⟨k + 1, ?_⟩
      rw [List.replicate_succ, List.cons_append, ← hk, beq_iff_eq.1 h]
    · exact ⟨0, rfl⟩
theorem tl0_zeros (l : List UInt8) : l = tl0 l ++ List.replicate (l.length - (tl0 l).length) 48 := by
  obtain ⟨k, hk⟩ := drop_zeros l.reverse
  have e : l = tl0 l ++ List.replicate k 48 := by
    have := congrArg List.reverse hk
    rw [List.reverse_reverse, List.reverse_append, List.reverse_replicate] at this
    exact this
  have hl : l.length - (tl0 l).length = k := by
    have := congrArg List.length e
    rw [List.length_append, List.length_replicate] at this
    omega
  rw [hl]
  exact e
theorem digs_dec (d : Nat) : (Lib.decDigits d).all isDec = true := all_dec (dcV_digits d).2.1
theorem all_left {l m : List UInt8} (h : (l ++ m).all isDec = true) : l.all isDec = true ∧ m.all isDec = true := by
  rw [List.all_append, Bool.and_eq_true] at h; exact h
/-- A whole number's text, with its sign. -/
theorem itoa_form (y : Int) : ∃ S X, Lib.itoa y = S ++ X ∧ sgOk S ∧ X.all isDec = true ∧ X ≠ [] ∧ (y.natAbs ≤ vast → exV (some (101, S, X)) = y) := by
  obtain ⟨d1, d2, _, d4⟩ := dcV_digits y.natAbs
  have hne : Lib.decDigits y.natAbs ≠ [] := fun e => d4 (by rw [e]; rfl)
  by_cases hy : y < 0
  · obtain ⟨u, hu⟩ : ∃ u : Nat, y = -(u : Int) := ⟨y.natAbs, by omega⟩
    have hu' : y.natAbs = u := by omega
    rw [hu'] at d1 d2 hne
    refine ⟨[45], Lib.decDigits u, by rw [hu, Lib.itoa_neg u (by omega)]; rfl, .inr (.inr rfl), all_dec d2, hne, fun hv => ?_⟩
    rw [exV_some, if_pos rfl, d1]
    omega
  · obtain ⟨u, hu⟩ : ∃ u : Nat, y = (u : Int) := ⟨y.natAbs, by omega⟩
    have hu' : y.natAbs = u := by omega
    rw [hu'] at d1 d2 hne
    refine ⟨[], Lib.decDigits u, by rw [hu, Lib.itoa_nonneg]; rfl, .inl rfl, all_dec d2, hne, fun hv => ?_⟩
    rw [exV_some, if_neg (by decide), d1]
    omega
/-- What Print lays out is a spelt number; it says d * 10^q. -/
theorem lay_form {f : Fm} {S D : List UInt8} {q : Int} {v : Nat} {k : Int} (h : ParOk f (bs (S ++ layS D q)) v k) (hS : sgOk S) (hD : D.all isDec = true) (hD0 : 1 ≤ D.length) (hD1 : D.length ≤ 1000) (q1 : -2000 ≤ q) (q2 : q ≤ 2000) :
    k = 0 ∧ ∃ p, IsPat f (tn (dcV D) q) (td q) p ∧ p ≤ f.inf ∧ v = sgn f (decide (S = [45])) p := by
  have hSl : S.length ≤ 1 := by rcases hS with e | e | e <;> rw [e] <;> simp
  have hne : D ≠ [] := fun e => by rw [e] at hD0; simp at hD0
  unfold layS at h
  split at h
  · rename_i c
    obtain ⟨h1, p, h2, h3, h4⟩ := par_form (pt := none) (ex := none) (W := D ++ List.replicate q.toNat 48) h (by simp [ptT, exT]) hS (by rw [List.all_append, hD, zeros_dec]; rfl) rfl (by simp [ptD, hne]) trivial (by simp; omega)
    refine ⟨h1, p, ?_, h3, h4⟩
    have e : exV none - ((ptD none).length : Int) = 0 := rfl
    rw [e, show (D ++ List.replicate q.toNat 48) ++ ptD none = D ++ List.replicate q.toNat 48 by simp [ptD], dcV_zeros] at h2
    exact (pat_same q.toNat (by omega) rfl).1 h2
  · split at h
    · rename_i c0 c
      obtain ⟨n, hn⟩ : ∃ n, ((D.length : Int) + q).toNat = n := ⟨_, rfl⟩
      rw [hn] at h
      have hd := List.take_append_drop n D
      rw [← hd] at hD
      obtain ⟨a1, a2⟩ := all_left hD
      obtain ⟨h1, p, h2, h3, h4⟩ := par_form (pt := some (D.drop n)) (ex := none) (W := D.take n) h (by simp [ptT, exT]) hS a1 a2 (by show D.take n ++ D.drop n ≠ []; rw [hd]; exact hne) trivial (by simp; omega)
      refine ⟨h1, p, ?_, h3, h4⟩
      have e : exV none - ((ptD (some (D.drop n))).length : Int) = q := by show (0 : Int) - ((D.drop n).length : Int) = q; rw [List.length_drop]; omega
      rw [e, show D.take n ++ ptD (some (D.drop n)) = D from hd] at h2
      exact h2
    · split at h
      · rename_i c0 c1 c
        obtain ⟨n, hn⟩ : ∃ n, (-((D.length : Int) + q)).toNat = n := ⟨_, rfl⟩
        rw [hn] at h
        obtain ⟨h1, p, h2, h3, h4⟩ := par_form (pt := some (List.replicate n 48 ++ D)) (ex := none) (W := [48]) h (by simp [ptT, exT]) hS (by decide) (by show (List.replicate n 48 ++ D).all isDec = true; rw [List.all_append, hD, zeros_dec]; rfl) (by simp) trivial (by simp; omega)
        refine ⟨h1, p, ?_, h3, h4⟩
        have e : exV none - ((ptD (some (List.replicate n 48 ++ D))).length : Int) = q := by show (0 : Int) - ((List.replicate n 48 ++ D).length : Int) = q; rw [List.length_append, List.length_replicate]; omega
        rw [e, show ([48] : List UInt8) ++ ptD (some (List.replicate n 48 ++ D)) = 48 :: (List.replicate n 48 ++ D) from rfl, dcV_zero_cons, zeros_dcV] at h2
        exact h2
      · rename_i c0 c1 c
        obtain ⟨Sx, X, e1, e2, e3, e4, e5⟩ := itoa_form ((D.length : Int) + q - 1)
        have e5 := e5 (by unfold vast; omega)
        have hIl := itoa_len ((D.length : Int) + q - 1) (by omega) (by omega)
        rw [e1] at h hIl
        unfold ptd at h
        split at h
        · rename_i c2
          obtain ⟨h1, p, h2, h3, h4⟩ := par_form (pt := none) (ex := some (101, Sx, X)) (W := D) h (by simp [ptT, exT]) hS hD rfl (by simp [ptD, hne]) ⟨.inl rfl, e2, e3, e4⟩ (by simp at hIl ⊢; omega)
          refine ⟨h1, p, ?_, h3, h4⟩
          have e : exV (some (101, Sx, X)) - ((ptD none).length : Int) = q := by rw [e5]; show _ - (0 : Int) = q; omega
          rw [e, show D ++ ptD none = D by simp [ptD]] at h2
          exact h2
        · rename_i c2
          have hd := List.take_append_drop 1 D
          rw [← hd] at hD
          obtain ⟨a1, a2⟩ := all_left hD
          obtain ⟨h1, p, h2, h3, h4⟩ := par_form (pt := some (D.drop 1)) (ex := some (101, Sx, X)) (W := D.take 1) h (by simp [ptT, exT]) hS a1 a2 (by show D.take 1 ++ D.drop 1 ≠ []; rw [hd]; exact hne) ⟨.inl rfl, e2, e3, e4⟩ (by simp at hIl ⊢; omega)
          refine ⟨h1, p, ?_, h3, h4⟩
          have e : exV (some (101, Sx, X)) - ((ptD (some (D.drop 1))).length : Int) = q := by rw [e5]; show _ - ((D.drop 1).length : Int) = q; rw [List.length_drop]; omega
          rw [e, show D.take 1 ++ ptD (some (D.drop 1)) = D from hd] at h2
          exact h2
end Go.Proofs.YtibjogbalmbeeaaGreatDoor

namespace Go.Proofs.YtibjogbalmbeeaaGreatDoor

/-- A set of bytes ends where it ends. -/
theorem ovr_run {p : UInt8 → Bool} {T A D R : List UInt8} (hT : T = A ++ (D ++ R)) (hD : ∀ c ∈ D, p c = true) (hR : ∀ c t, R = c :: t → p c = false) : ovr p (bs T) A.length = A.length + D.length := by
  have hl := len_at hT
  rw [List.length_append] at hl
  refine ovr_eq (by omega) (fun h => ?_) _ _ rfl (by omega) (fun j h1 h2 => ?_)
  · cases hR0 : R with
    | nil => rw [hR0] at hl; simp at hl; omega
    | cons c t =>
      have := by8_hd (T := T) (A := A ++ D) (R := t) (c := c) (by rw [hT, hR0, List.append_assoc])
      rw [List.length_append] at this
      rw [this]; exact hR c t hR0
  · obtain ⟨i, rfl⟩ : ∃ i, j = A.length + i := ⟨j - A.length, by omega⟩
    rw [by8_in hT (by omega)]
    exact hD _ (List.getElem_mem _)
theorem dec_pDig {c : UInt8} (h : isDec c = true) : pDig c = true := by
  have := isDec_range c h
  unfold pDig
  rw [decide_eq_true (by omega), decide_eq_true (by omega)]; rfl
/-- An exponent to the text's end. -/
theorem pwr_run {T A S X : List UInt8} {E : UInt8} (hT : T = A ++ (E :: (S ++ X))) (hS : sgOk S) (hX : X.all isDec = true) (hX0 : X ≠ []) : pwr (bs T) A.length E = (bs T).size := by
  have hl := len_at hT
  simp only [List.length_cons, List.length_append] at hl
  have h0 := by8_hd hT
  have hXd : ∀ c ∈ X, pDig c = true := fun c hc => dec_pDig (List.all_eq_true.1 hX c hc)
  have hXl : 1 ≤ X.length := by cases X with | nil => exact absurd rfl hX0 | cons => simp
  unfold pwr
  rw [if_pos ⟨by omega, h0⟩]
  have hrun := ovr_run (p := pDig) (T := T) (A := A ++ (E :: S)) (D := X) (R := []) (by rw [hT]; simp) hXd (fun c t h => by cases h)
  simp only [List.length_append, List.length_cons] at hrun
  rcases hS with e | e | e
  · subst e
    obtain ⟨c, t, rfl⟩ : ∃ c t, X = c :: t := by cases X with | nil => exact absurd rfl hX0 | cons c t => exact ⟨c, t, rfl⟩
    have h1 := by8_hd (T := T) (A := A ++ [E]) (R := t) (c := c) (by rw [hT]; simp)
    rw [List.length_append] at h1
    have hc := isDec_range c (List.all_eq_true.1 hX c (by simp))
    rw [if_neg (by
      rintro ⟨_, h | h⟩
      · rw [show A.length + 1 = A.length + [E].length by simp, h1] at h; subst h; exact absurd hc (by decide)
      · rw [show A.length + 1 = A.length + [E].length by simp, h1] at h; subst h; exact absurd hc (by decide))]
    simp only [List.length_nil, Nat.zero_add] at hrun hl
    rw [hrun]; omega
  · subst e
    have h1 := by8_hd (T := T) (A := A ++ [E]) (R := X) (c := 43) (by rw [hT]; simp)
    simp only [List.length_append, List.length_cons, List.length_nil, Nat.zero_add] at h1 hl hrun
    rw [if_pos ⟨by omega, .inl h1⟩, show A.length + 2 = A.length + (1 + 1) by omega, hrun]; omega
  · subst e
    have h1 := by8_hd (T := T) (A := A ++ [E]) (R := X) (c := 45) (by rw [hT]; simp)
    simp only [List.length_append, List.length_cons, List.length_nil, Nat.zero_add] at h1 hl hrun
    rw [if_pos ⟨by omega, .inr h1⟩, show A.length + 2 = A.length + (1 + 1) by omega, hrun]; omega
def exLow : Option (UInt8 × List UInt8 × List UInt8) → Prop
  | none => True
  | some (E, S, X) => E = 101 ∧ sgOk S ∧ X.all isDec = true ∧ X ≠ []
/-- A decimal number, to the text's end, is one piece. -/
theorem num_cut {T A W : List UInt8} {pt : Option (List UInt8)} {ex : Option (UInt8 × List UInt8 × List UInt8)} (hT : T = A ++ (W ++ (ptT pt ++ exT ex))) (hW : W.all isDec = true) (hW0 : W ≠ []) (hP : (ptD pt).all isDec = true) (hx : exLow ex) : cutK (bs T) A.length = (2, (bs T).size) := by
  have hl := len_at hT
  have hW1 : 1 ≤ W.length := by cases W with | nil => exact absurd rfl hW0 | cons => simp
  have hWd : ∀ c ∈ W, pDig c = true := fun c hc => dec_pDig (List.all_eq_true.1 hW c hc)
  have hfirst : pDig (by8 (bs T) A.length) = true := by
    have h := by8_in (T := T) (A := A) (D := W) (R := ptT pt ++ exT ex) hT (j := 0) (by omega)
    rw [Nat.add_zero] at h
    rw [h]; exact hWd _ (List.getElem_mem _)
  -- the bytes of the number
  have hB : ∀ c ∈ W ++ ptT pt, pNum c = true := fun c hc => by
    unfold pNum
    rcases List.mem_append.1 hc with h | h
    · rw [hWd c h]; rfl
    · cases pt with
      | none => exact absurd h (by simp [ptT])
      | some P =>
        rcases List.mem_cons.1 h with h | h
        · subst h; simp
        · rw [dec_pDig (List.all_eq_true.1 hP c h)]; rfl
  have hE : ∀ c t, exT ex = c :: t → c = 101 := fun c t h => by
    cases ex with
    | none => exact absurd h (by simp [exT])
    | some q =>
      obtain ⟨E, S, X⟩ := q
      rw [← (List.cons.inj h).1]; exact hx.1
  have hrun := ovr_run (p := pNum) (T := T) (A := A) (D := W ++ ptT pt) (R := exT ex) (by rw [hT]; simp) hB (fun c t h => by rw [hE c t h]; rfl)
  have hpw : pwr (bs T) (A.length + (W ++ ptT pt).length) 101 = (bs T).size := by
    cases ex with
    | none =>
      have e : (bs T).size = A.length + (W ++ ptT pt).length := by rw [hl]; simp [exT]
      unfold pwr
      rw [if_neg (by omega), e]
    | some q =>
      obtain ⟨E, S, X⟩ := q
      obtain ⟨h1, h2, h3, h4⟩ := hx
      subst h1
      have := pwr_run (T := T) (A := A ++ (W ++ ptT pt)) (S := S) (X := X) (E := 101) (by rw [hT]; simp [exT]) h2 h3 h4
      rwa [List.length_append] at this
  have hx2 : ¬ (A.length + 1 < (bs T).size ∧ by8 (bs T) A.length = 48 ∧ by8 (bs T) (A.length + 1) = 120) := by
    rintro ⟨h1, _, h2⟩
    by_cases hin : 1 < (W ++ ptT pt).length
    · have h := by8_in (T := T) (A := A) (D := W ++ ptT pt) (R := exT ex) (by rw [hT]; simp) (j := 1) hin
      have := hB _ (List.getElem_mem hin)
      rw [← h, h2] at this
      exact absurd this (by decide)
    · have hlw : (W ++ ptT pt).length = 1 := by rw [List.length_append] at hin ⊢; omega
      cases hex : exT ex with
      | nil =>
        have : (bs T).size = A.length + (W ++ ptT pt).length := by rw [hl, hex]; simp
        omega
      | cons c t =>
        have h := by8_hd (T := T) (A := A ++ (W ++ ptT pt)) (R := t) (c := c) (by rw [hT, hex]; simp)
        rw [List.length_append, hlw, h2] at h
        rw [hE c t hex] at h
        exact absurd h (by decide)
  have hs : ¬ (bs T).size ≤ A.length := by rw [hl, List.length_append]; omega
  have hlet : pLet (by8 (bs T) A.length) = false := by
    unfold pDig at hfirst
    unfold pLet
    rw [Bool.and_eq_true, decide_eq_true_eq, decide_eq_true_eq] at hfirst
    rw [decide_eq_false (by omega)]; rfl
  unfold cutK
  rw [if_neg hs, hlet, if_neg (by decide), hfirst, Bool.true_or, if_pos rfl]
  unfold numE
  rw [if_neg hx2, hrun, hpw]
/-- A hexadecimal number, to the text's end, is one piece. -/
theorem hex_cut {T A D S X : List UInt8} (hT : T = A ++ (48 :: 120 :: (D ++ (112 :: (S ++ X))))) (hD : ∀ c ∈ D, pHex c = true) (hS : sgOk S) (hX : X.all isDec = true) (hX0 : X ≠ []) : cutK (bs T) A.length = (2, (bs T).size) := by
  have hl := len_at hT
  simp only [List.length_cons, List.length_append] at hl
  have h0 := by8_hd hT
  have h1 := by8_hd (T := T) (A := A ++ [48]) (R := D ++ (112 :: (S ++ X))) (c := 120) (by rw [hT]; simp)
  rw [List.length_append] at h1
  have hrun := ovr_run (p := pHex) (T := T) (A := A ++ [48, 120]) (D := D) (R := 112 :: (S ++ X)) (by rw [hT]; simp) hD (fun c t h => by rw [← (List.cons.inj h).1]; rfl)
  have hpw := pwr_run (T := T) (A := A ++ [48, 120] ++ D) (S := S) (X := X) (E := 112) (by rw [hT]; simp) hS hX hX0
  simp only [List.length_append, List.length_cons, List.length_nil, Nat.zero_add] at hrun hpw h1
  unfold cutK
  rw [if_neg (by omega), h0, if_neg (by decide), if_pos (by decide)]
  unfold numE
  rw [if_pos ⟨by omega, h0, h1⟩]
  rw [show A.length + 2 = A.length + (1 + 1) by omega, hrun, hpw]
end Go.Proofs.YtibjogbalmbeeaaGreatDoor
