/- Walks of calc: parentheses, signs and both, nested. · Walks of calc: abs, nested. · Walks of calc: a desk's line whose expression gives up. -/
import Derived.Test.YtibjogbalmbeeaaGreatDoorU34
import Derived.Deep.DeepCutAuto

namespace Go.Proofs.YtibjogbalmbeeaaGreatDoor
open Go.RowKit

abbrev tA (j : Nat) (R : List UInt8) : List UInt8 := List.replicate j 40 ++ 49 :: (List.replicate j 41 ++ R)
theorem tA_succ (A : List UInt8) (j : Nat) (R : List UInt8) : A ++ tA (j + 1) R = (A ++ [40]) ++ tA j (41 :: R) := by
  unfold tA
  rw [rep_tail, List.replicate_succ, List.append_assoc]; rfl
/-- Parentheses around a number. -/
theorem nest_a {w : World} {g : Nat} {D L : Value} {h : Int} {l : List Nat} (hg : w.heap.size = g) (ht : Tab64 w) (hl : l.length < 900) {T : List UInt8} (hsz : T.length ≤ 1000) : ∀ (j : Nat) (A R : List UInt8) (d n : Nat) (W : World), T = A ++ tA j R → n = A.length → (R = [] ∨ ∃ t, R = 41 :: t) → d + j ≤ 50 → St w W g (bs T) n D L d h l →
    Calls Tryz.prog 164 #[.pointer (some ⟨g, 0, none⟩)] W fun e w' => e = .returned (.tuple #[]) ∧ St w w' g (bs T) (n + 2 * j + 1) D L d h (l ++ [ONE])
  | 0, A, R, d, n, W, hT, hn, hR, hd, H => by
    obtain ⟨p1, p2, p3, p4, p5⟩ := one_piece (T := T) (A := A) (R := R) hT hn hR
    have := H.number p2 (by omega) (by rw [bs_size]; omega) (by omega) ONE true (by rw [p3]; decide) (fun U hU => by rw [p3]; exact parse_one U ((H.tab hg ht).below hU))
    rw [p4] at this
    exact this
  | j + 1, A, R, d, n, W, hT, hn, hR, hd, H => by
    have hT' := hT
    rw [tA_succ] at hT'
    obtain ⟨p1, p2, p3, p4, p5⟩ := mk_piece (T := T) (A := A) (c := 40) (R := tA j (41 :: R)) (by rw [hT', List.append_assoc]; rfl) hn (by decide) (by decide) (by decide)
    obtain ⟨q1, q2, q3, q4, q5⟩ := mk_piece (T := T) (A := A ++ 40 :: (List.replicate j 40 ++ 49 :: List.replicate j 41)) (c := 41) (R := R) (n := n + 2 * j + 2) (by rw [hT']; unfold tA; simp) (by simp; omega) (by decide) (by decide) (by decide)
    obtain ⟨o1, o2, o3, o4, _⟩ := not_ops q3
    have hs : (bs T).size ≤ 100000 := by rw [bs_size]; omega
    have hi : isM 3 ⟨#[41]⟩ ⟨#[41]⟩ = true := by decide
    refine (H.paren (x := ONE) (n2 := n + 2 * j + 2) (by rw [p2, p3]; decide) (by omega) hs (by omega) (by omega) (by rw [q2, q3]; exact hi) (fun U hU => hU.expression_one o3 o4 fun V hV => hV.term_one o1 o2 fun V2 hV2 => ?_)).mono ?_
    · rw [p4] at hV2
      refine (nest_a hg ht hl hsz j (A ++ [40]) (41 :: R) (d + 1) (n + 1) V2 hT' (by simp; omega) (.inr ⟨_, rfl⟩) (by omega) hV2).mono ?_
      rintro e w' ⟨rfl, h1⟩
      refine ⟨rfl, ?_⟩
      rw [show n + 2 * j + 2 = n + 1 + 2 * j + 1 by omega]
      exact h1
    · rintro e w' ⟨rfl, h1⟩
      refine ⟨rfl, ?_⟩
      rw [q4] at h1
      rw [show n + 2 * (j + 1) + 1 = n + 2 * j + 2 + 1 by omega]
      exact h1
theorem nest_a_no {w : World} {g : Nat} {D L : Value} {h : Int} {l : List Nat} {T : List UInt8} (hsz : T.length ≤ 1000) : ∀ (j : Nat) (A R : List UInt8) (d n : Nat) (W : World), T = A ++ tA j R → n = A.length → d ≤ 50 → 50 < d + j → St w W g (bs T) n D L d h l →
    Calls Tryz.prog 164 #[.pointer (some ⟨g, 0, none⟩)] W fun e w' => e = .panicked [cfault ((n + (50 - d) : Nat) : Int) 11] ∧ Below g w w'
  | 0, A, R, d, n, W, hT, hn, hd, hj, H => by omega
  | j + 1, A, R, d, n, W, hT, hn, hd, hj, H => by
    have hT' := hT
    rw [tA_succ] at hT'
    obtain ⟨p1, p2, p3, p4, p5⟩ := mk_piece (T := T) (A := A) (c := 40) (R := tA j (41 :: R)) (by rw [hT', List.append_assoc]; rfl) hn (by decide) (by decide) (by decide)
    have hs : (bs T).size ≤ 100000 := by rw [bs_size]; omega
    by_cases c : d = 50
    · have := H.paren_deep (by rw [p2, p3]; decide) c
      rw [p1] at this
      rw [c, Nat.sub_self, Nat.add_zero]
      exact this
    · refine H.paren_no (by rw [p2, p3]; decide) (by omega) hs (by omega) fun U hU => expression_no (term_no ?_)
      rw [p4] at hU
      have := nest_a_no hsz j (A ++ [40]) (41 :: R) (d + 1) (n + 1) U hT' (by simp; omega) (by omega) (by omega) hU
      rw [show n + 1 + (50 - (d + 1)) = n + (50 - d) by omega] at this
      exact this

/-- One, its sign turned j times. -/
def sgV (j : Nat) : Nat := if j % 2 = 0 then ONE else 9223372036854775808 + ONE
theorem neg_sgV (j : Nat) (W : World) (ht : Tab64 W) : Calls Tryz.prog 180 #[.int .i64 64, .int .u64 (sgV j : Int)] W fun e w' => e = .returned (.tuple #[.int .u64 (sgV (j + 1) : Int), .int .i64 0]) ∧ Below W.heap.size W w' := by
  unfold sgV
  by_cases c : j % 2 = 0
  · rw [if_pos c, if_neg (by omega)]
    exact neg_num ONE (by decide) (by decide) W ht
  · rw [if_neg c, if_pos (by omega)]
    exact neg_neg ONE (by decide) (by decide) W ht
abbrev tB (j : Nat) : List UInt8 := List.replicate j 45 ++ [49]
theorem tB_succ (A : List UInt8) (j : Nat) : A ++ tB (j + 1) = (A ++ [45]) ++ tB j := by
  unfold tB
  rw [List.replicate_succ, List.append_assoc]; rfl
/-- Signs ahead of a number. -/
theorem nest_b {w : World} {g : Nat} {D L : Value} {h : Int} {l : List Nat} (hg : w.heap.size = g) (ht : Tab64 w) (hl : l.length < 900) {T : List UInt8} (hsz : T.length ≤ 1000) : ∀ (j : Nat) (A : List UInt8) (d n : Nat) (W : World), T = A ++ tB j → n = A.length → d + j ≤ 50 → St w W g (bs T) n D L d h l →
    Calls Tryz.prog 164 #[.pointer (some ⟨g, 0, none⟩)] W fun e w' => e = .returned (.tuple #[]) ∧ St w w' g (bs T) (n + j + 1) D L d h (l ++ [sgV j])
  | 0, A, d, n, W, hT, hn, hd, H => by
    obtain ⟨p1, p2, p3, p4, p5⟩ := one_piece (T := T) (A := A) (R := []) hT hn (.inl rfl)
    have := H.number p2 (by omega) (by rw [bs_size]; omega) (by omega) ONE true (by rw [p3]; decide) (fun U hU => by rw [p3]; exact parse_one U ((H.tab hg ht).below hU))
    rw [p4] at this
    exact this
  | j + 1, A, d, n, W, hT, hn, hd, H => by
    have hT' := hT
    rw [tB_succ] at hT'
    obtain ⟨p1, p2, p3, p4, p5⟩ := mk_piece (T := T) (A := A) (c := 45) (R := tB j) (by rw [hT', List.append_assoc]; rfl) hn (by decide) (by decide) (by decide)
    have hs : (bs T).size ≤ 100000 := by rw [bs_size]; omega
    refine H.minus (x := sgV j) (y := sgV (j + 1)) (z := 0) (n2 := n + (j + 1) + 1) (by rw [p2, p3]; decide) (by omega) hs (by omega) (by omega) (fun U hU => ?_) (fun U hU => neg_sgV j U (hU.tab hg ht))
    rw [p4] at hU
    have := nest_b hg ht hl hsz j (A ++ [45]) (d + 1) (n + 1) U hT' (by simp; omega) (by omega) hU
    rw [show n + 1 + j + 1 = n + (j + 1) + 1 by omega] at this
    exact this
theorem nest_b_no {w : World} {g : Nat} {D L : Value} {h : Int} {l : List Nat} {T : List UInt8} (hsz : T.length ≤ 1000) : ∀ (j : Nat) (A : List UInt8) (d n : Nat) (W : World), T = A ++ tB j → n = A.length → d ≤ 50 → 50 < d + j → St w W g (bs T) n D L d h l →
    Calls Tryz.prog 164 #[.pointer (some ⟨g, 0, none⟩)] W fun e w' => e = .panicked [cfault ((n + (50 - d) : Nat) : Int) 11] ∧ Below g w w'
  | 0, A, d, n, W, hT, hn, hd, hj, H => by omega
  | j + 1, A, d, n, W, hT, hn, hd, hj, H => by
    have hT' := hT
    rw [tB_succ] at hT'
    obtain ⟨p1, p2, p3, p4, p5⟩ := mk_piece (T := T) (A := A) (c := 45) (R := tB j) (by rw [hT', List.append_assoc]; rfl) hn (by decide) (by decide) (by decide)
    have hs : (bs T).size ≤ 100000 := by rw [bs_size]; omega
    by_cases c : d = 50
    · have := H.minus_deep (by rw [p2, p3]; decide) c
      rw [p1] at this
      rw [c, Nat.sub_self, Nat.add_zero]
      exact this
    · refine H.minus_no (by rw [p2, p3]; decide) (by omega) hs (by omega) fun U hU => ?_
      rw [p4] at hU
      have := nest_b_no hsz j (A ++ [45]) (d + 1) (n + 1) U hT' (by simp; omega) (by omega) (by omega) hU
      rw [show n + 1 + (50 - (d + 1)) = n + (50 - d) by omega] at this
      exact this

def rp : Nat → List UInt8
  | 0 => []
  | j + 1 => 45 :: 40 :: rp j
theorem rp_len (j : Nat) : (rp j).length = 2 * j := by
  induction j with
  | zero => rfl
  | succ j ih => simp only [rp, List.length_cons, ih]; omega
abbrev tC (j : Nat) (R : List UInt8) : List UInt8 := rp j ++ 49 :: (List.replicate j 41 ++ R)
theorem tC_succ (A : List UInt8) (j : Nat) (R : List UInt8) : A ++ tC (j + 1) R = (A ++ [45, 40]) ++ tC j (41 :: R) := by
  unfold tC
  rw [rep_tail, List.append_assoc]; rfl
/-- Signs and parentheses around a number. -/
theorem nest_c {w : World} {g : Nat} {D L : Value} {h : Int} {l : List Nat} (hg : w.heap.size = g) (ht : Tab64 w) (hl : l.length < 900) {T : List UInt8} (hsz : T.length ≤ 1000) : ∀ (j : Nat) (A R : List UInt8) (d n : Nat) (W : World), T = A ++ tC j R → n = A.length → (R = [] ∨ ∃ t, R = 41 :: t) → d + 2 * j ≤ 50 → St w W g (bs T) n D L d h l →
    Calls Tryz.prog 164 #[.pointer (some ⟨g, 0, none⟩)] W fun e w' => e = .returned (.tuple #[]) ∧ St w w' g (bs T) (n + 3 * j + 1) D L d h (l ++ [sgV j])
  | 0, A, R, d, n, W, hT, hn, hR, hd, H => by
    obtain ⟨p1, p2, p3, p4, p5⟩ := one_piece (T := T) (A := A) (R := R) hT hn hR
    have := H.number p2 (by omega) (by rw [bs_size]; omega) (by omega) ONE true (by rw [p3]; decide) (fun U hU => by rw [p3]; exact parse_one U ((H.tab hg ht).below hU))
    rw [p4] at this
    exact this
  | j + 1, A, R, d, n, W, hT, hn, hR, hd, H => by
    have hT' := hT
    rw [tC_succ] at hT'
    obtain ⟨p1, p2, p3, p4, p5⟩ := mk_piece (T := T) (A := A) (c := 45) (R := 40 :: tC j (41 :: R)) (by rw [hT', List.append_assoc]; rfl) hn (by decide) (by decide) (by decide)
    obtain ⟨r1, r2, r3, r4, r5⟩ := mk_piece (T := T) (A := A ++ [45]) (c := 40) (R := tC j (41 :: R)) (n := n + 1) (by rw [hT', List.append_assoc, List.append_assoc]; rfl) (by simp; omega) (by decide) (by decide) (by decide)
    obtain ⟨q1, q2, q3, q4, q5⟩ := mk_piece (T := T) (A := A ++ 45 :: 40 :: (rp j ++ 49 :: List.replicate j 41)) (c := 41) (R := R) (n := n + 3 * j + 3) (by rw [hT']; unfold tC; simp) (by simp [rp_len]; omega) (by decide) (by decide) (by decide)
    obtain ⟨o1, o2, o3, o4, _⟩ := not_ops q3
    have hs : (bs T).size ≤ 100000 := by rw [bs_size]; omega
    refine H.minus (x := sgV j) (y := sgV (j + 1)) (z := 0) (n2 := n + 3 * (j + 1) + 1) (by rw [p2, p3]; decide) (by omega) hs (by omega) (by omega) (fun U hU => ?_) (fun U hU => neg_sgV j U (hU.tab hg ht))
    rw [p4] at hU
    refine (hU.paren (x := sgV j) (n2 := n + 3 * j + 3) (by rw [r2, r3]; decide) (by omega) hs (by omega) (by omega) (by rw [q2, q3]; decide) (fun U hU => hU.expression_one o3 o4 fun V hV => hV.term_one o1 o2 fun V2 hV2 => ?_)).mono ?_
    · rw [r4] at hV2
      refine (nest_c hg ht hl hsz j (A ++ [45, 40]) (41 :: R) (d + 2) (n + 2) V2 hT' (by simp; omega) (.inr ⟨_, rfl⟩) (by omega) hV2).mono ?_
      rintro e w' ⟨rfl, h1⟩
      refine ⟨rfl, ?_⟩
      rw [show n + 3 * j + 3 = n + 2 + 3 * j + 1 by omega]
      exact h1
    · rintro e w' ⟨rfl, h1⟩
      refine ⟨rfl, ?_⟩
      rw [q4] at h1
      rw [show n + 3 * (j + 1) + 1 = n + 3 * j + 3 + 1 by omega]
      exact h1
theorem nest_c_no {w : World} {g : Nat} {D L : Value} {h : Int} {l : List Nat} {T : List UInt8} (hsz : T.length ≤ 1000) : ∀ (j : Nat) (A R : List UInt8) (d n : Nat) (W : World), T = A ++ tC j R → n = A.length → d ≤ 50 → d % 2 = 0 → 50 < d + 2 * j → St w W g (bs T) n D L d h l →
    Calls Tryz.prog 164 #[.pointer (some ⟨g, 0, none⟩)] W fun e w' => e = .panicked [cfault ((n + (50 - d) : Nat) : Int) 11] ∧ Below g w w'
  | 0, A, R, d, n, W, hT, hn, hd, he, hj, H => by omega
  | j + 1, A, R, d, n, W, hT, hn, hd, he, hj, H => by
    have hT' := hT
    rw [tC_succ] at hT'
    obtain ⟨p1, p2, p3, p4, p5⟩ := mk_piece (T := T) (A := A) (c := 45) (R := 40 :: tC j (41 :: R)) (by rw [hT', List.append_assoc]; rfl) hn (by decide) (by decide) (by decide)
    obtain ⟨r1, r2, r3, r4, r5⟩ := mk_piece (T := T) (A := A ++ [45]) (c := 40) (R := tC j (41 :: R)) (n := n + 1) (by rw [hT', List.append_assoc, List.append_assoc]; rfl) (by simp; omega) (by decide) (by decide) (by decide)
    have hs : (bs T).size ≤ 100000 := by rw [bs_size]; omega
    by_cases c : d = 50
    · have := H.minus_deep (by rw [p2, p3]; decide) c
      rw [p1] at this
      rw [c, Nat.sub_self, Nat.add_zero]
      exact this
    · refine H.minus_no (by rw [p2, p3]; decide) (by omega) hs (by omega) fun U hU => ?_
      rw [p4] at hU
      refine hU.paren_no (by rw [r2, r3]; decide) (by omega) hs (by omega) fun U2 hU2 => expression_no (term_no ?_)
      rw [r4] at hU2
      have := nest_c_no hsz j (A ++ [45, 40]) (41 :: R) (d + 2) (n + 2) U2 hT' (by simp; omega) (by omega) (by omega) (by omega) hU2
      rw [show n + 2 + (50 - (d + 2)) = n + (50 - d) by omega] at this
      exact this
end Go.Proofs.YtibjogbalmbeeaaGreatDoor

namespace Go.Proofs.YtibjogbalmbeeaaGreatDoor
open Go.RowKit

def rf : Nat → List UInt8
  | 0 => []
  | j + 1 => 97 :: 98 :: 115 :: 40 :: rf j
theorem rf_len (j : Nat) : (rf j).length = 4 * j := by
  induction j with
  | zero => rfl
  | succ j ih => simp only [rf, List.length_cons, ih]; omega
abbrev tF (j : Nat) (R : List UInt8) : List UInt8 := rf j ++ 49 :: (List.replicate j 41 ++ R)
theorem tF_succ (A : List UInt8) (j : Nat) (R : List UInt8) : A ++ tF (j + 1) R = (A ++ [97, 98, 115, 40]) ++ tF j (41 :: R) := by
  unfold tF
  rw [rep_tail, List.append_assoc]; rfl
theorem nest_f {w : World} {g : Nat} {D L : Value} {h : Int} (hg : w.heap.size = g) (ht : Tab64 w) {T : List UInt8} (hsz : T.length ≤ 1000) : ∀ (j : Nat) (A R : List UInt8) (d n : Nat) (W : World), T = A ++ tF j R → n = A.length → (R = [] ∨ ∃ t, R = 41 :: t) → d + j ≤ 50 → Below g w W → Em W g (bs T) n D L d h →
    Calls Tryz.prog 164 #[.pointer (some ⟨g, 0, none⟩)] W fun e w' => e = .returned (.tuple #[]) ∧ Fu W w' g (bs T) (n + 5 * j + 1) D L d h ONE
  | 0, A, R, d, n, W, hT, hn, hR, hd, hb, H => by
    obtain ⟨p1, p2, p3, p4, p5⟩ := one_piece (T := T) (A := A) (R := R) hT hn hR
    have htW : Tab64 W := ht.below (by rw [hg]; exact hb)
    have := H.number p2 (by omega) (by rw [bs_size]; omega) ONE (by rw [p3]; decide) (fun U hU => by rw [p3]; exact parse_one U (htW.below hU))
    rw [p4] at this
    exact this
  | j + 1, A, R, d, n, W, hT, hn, hR, hd, hb, H => by
    have hT' := hT
    rw [tF_succ] at hT'
    obtain ⟨p1, p2, p3, p4, p5⟩ := abs_piece (T := T) (A := A) (R := tF j (41 :: R)) (by rw [hT', List.append_assoc]; rfl) hn
    obtain ⟨r1, r2, r3, r4, r5⟩ := mk_piece (T := T) (A := A ++ [97, 98, 115]) (c := 40) (R := tF j (41 :: R)) (n := n + 3) (by rw [hT', List.append_assoc, List.append_assoc]; rfl) (by simp; omega) (by decide) (by decide) (by decide)
    obtain ⟨q1, q2, q3, q4, q5⟩ := mk_piece (T := T) (A := A ++ 97 :: 98 :: 115 :: 40 :: (rf j ++ 49 :: List.replicate j 41)) (c := 41) (R := R) (n := n + 5 * j + 5) (by rw [hT']; unfold tF; simp) (by simp [rf_len]; omega) (by decide) (by decide) (by decide)
    obtain ⟨o1, o2, o3, o4, o5⟩ := not_ops q3
    have hs : (bs T).size ≤ 100000 := by rw [bs_size]; omega
    have hgW : g ≤ W.heap.size := Nat.le_of_lt H.lt
    refine factor_word H p2 (fun w' => Fu W w' g (bs T) (n + 5 * (j + 1) + 1) D L d h ONE) fun U hU => word_abs (RdB.below H hU) p3 (fun _ w' => Fu W w' g (bs T) (n + 5 * (j + 1) + 1) D L d h ONE) ?_
    refine ((H.below hU).func (x := ONE) (y := ONE) (n2 := n + 5 * j + 5) p2 p3 (by omega) hs (by omega) (by rw [p4, r2, r3]; decide) (by omega) o5 (by rw [q2, q3]; decide) (fun V hV hEm => Em.expression_one o3 o4 (Em.term_one o1 o2 ?_)) (fun V hV => abs_pos ONE (by decide) (by decide) V (ht.below (by rw [hg]; exact (hb.trans (hU.mono hgW)).trans hV)))).mono ?_
    · rw [p4, r4] at hEm
      refine (nest_f hg ht hsz j (A ++ [97, 98, 115, 40]) (41 :: R) (d + 1) (n + 3 + 1) V hT' (by simp; omega) (.inr ⟨_, rfl⟩) (by omega) ((hb.trans (hU.mono hgW)).trans hV) hEm).mono ?_
      rintro e w' ⟨rfl, h1⟩
      refine ⟨rfl, ?_⟩
      rw [show n + 5 * j + 5 = n + 3 + 1 + 5 * j + 1 by omega]
      exact h1
    · rintro e w' ⟨rfl, h1⟩
      refine ⟨rfl, ?_⟩
      rw [q4] at h1
      rw [show n + 5 * (j + 1) + 1 = n + 5 * j + 5 + 1 by omega]
      exact h1.restart (grb_of g hU)
theorem nest_f_no {w : World} {g : Nat} {D L : Value} {h : Int} {T : List UInt8} (hsz : T.length ≤ 1000) : ∀ (j : Nat) (A R : List UInt8) (d n : Nat) (W : World), T = A ++ tF j R → n = A.length → d ≤ 50 → 50 < d + j → Below g w W → Em W g (bs T) n D L d h →
    Calls Tryz.prog 164 #[.pointer (some ⟨g, 0, none⟩)] W fun e w' => e = .panicked [cfault ((n + 4 * (50 - d) + 3 : Nat) : Int) 11] ∧ Below g w w'
  | 0, A, R, d, n, W, hT, hn, hd, hj, hb, H => by omega
  | j + 1, A, R, d, n, W, hT, hn, hd, hj, hb, H => by
    have hT' := hT
    rw [tF_succ] at hT'
    obtain ⟨p1, p2, p3, p4, p5⟩ := abs_piece (T := T) (A := A) (R := tF j (41 :: R)) (by rw [hT', List.append_assoc]; rfl) hn
    obtain ⟨r1, r2, r3, r4, r5⟩ := mk_piece (T := T) (A := A ++ [97, 98, 115]) (c := 40) (R := tF j (41 :: R)) (n := n + 3) (by rw [hT', List.append_assoc, List.append_assoc]; rfl) (by simp; omega) (by decide) (by decide) (by decide)
    have hs : (bs T).size ≤ 100000 := by rw [bs_size]; omega
    have hgW : g ≤ W.heap.size := Nat.le_of_lt H.lt
    refine factor_word_no H p2 (fun w' => Below g w w') _ fun U hU => word_abs_no (RdB.below H hU) p3 (fun w' => Below g w w') ?_
    have hbU := hb.trans (hU.mono hgW)
    by_cases c : d = 50
    · refine ((H.below hU).func_deep p2 p3 (by omega) hs c (by rw [p4, r2, r3]; decide)).mono ?_
      rintro e w' ⟨rfl, h1⟩
      refine ⟨?_, hbU.trans h1⟩
      rw [p4, r1, c, Nat.sub_self, Nat.mul_zero, Nat.add_zero]
    · refine ((H.below hU).func_no (ch := [cfault ((n + 4 * (50 - d) + 3 : Nat) : Int) 11]) p2 p3 (by omega) hs (by omega) (by rw [p4, r2, r3]; decide) (fun V hV hEm => expression_no (term_no ?_))).mono ?_
      · rw [p4, r4] at hEm
        refine (nest_f_no (w := V) hsz j (A ++ [97, 98, 115, 40]) (41 :: R) (d + 1) (n + 3 + 1) V hT' (by simp; omega) (by omega) (by omega) (Below.refl _ _) hEm).mono ?_
        rintro e w' ⟨rfl, h1⟩
        refine ⟨?_, h1⟩
        rw [show n + 3 + 1 + 4 * (50 - (d + 1)) + 3 = n + 4 * (50 - d) + 3 by omega]
      · rintro e w' ⟨rfl, h1⟩
        exact ⟨rfl, hbU.trans h1⟩

set_option maxRecDepth 100000 in
set_option maxHeartbeats 1000000 in
theorem Em.value {U : World} {g s n n2 D L d} {x : Nat} (H : Em U g s n D L d (-1)) (hk : knd s n2 = 0)
    (hE : Calls Tryz.prog 104 #[.pointer (some ⟨g, 0, none⟩)] U fun e w' => e = .returned (.tuple #[]) ∧ Fu U w' g s n2 D L d (-1) x) :
    Calls Tryz.prog 58 #[.pointer (some ⟨g, 0, none⟩)] U fun e w' => e = .returned (.int .u64 (x : Int)) ∧ U.grownBy w' (some g) := by
  have HE := Lib.hid hE
  have HK := Lib.hid hk
  have HL := Lib.hid H.lt
  clear H hE hk
  go_enter Tryz.func58, Tryz.ntmps58
  go_wp2_with fail
  refine HE.out.mono ?_
  rintro e w1 ⟨rfl, h1⟩
  have c2 : w1.cell? ⟨g, 2, none⟩ = some (.int .i64 0) := by have := h1.piece.1; rw [HK.out] at this; exact this
  obtain ⟨hg1, v, hr, ho⟩ := h1
  have c9 : w1.cell? ⟨g, 9, none⟩ = some (.int .i64 (-1)) := hr.cell 9
  have HP := Lib.hid (pop_walkB (l := []) hr (show OwV w1 _ v ([] ++ [x]) from ho) HL.out (by simp))
  have HG := Lib.hid hg1
  clear hg1 hr ho
  go_wp2_with fail
  refine HP.out.mono ?_
  rintro e w2 ⟨rfl, v', h1, h2, h3⟩
  have HG2 := Lib.hid (((Kp.of_grb HG.out (Nat.le_refl _)).trans (h3 _)).grb)
  clear h1 h2 h3
  go_wp2_with fail
  exact bodyPost_ret (v := .int .u64 (x : Int)) (by simp [results, Tryz.results58, go_sem]) rfl ⟨rfl, HG2.out⟩
end Go.Proofs.YtibjogbalmbeeaaGreatDoor

namespace Go.Proofs.YtibjogbalmbeeaaGreatDoor
open Go.RowKit

set_option maxRecDepth 100000 in
set_option maxHeartbeats 2000000 in
theorem desk_line_n_no {w W : World} {g q : Nat} {s : ByteArray} {L m : Value} {hx sl : Bool} {ch : List PanicEntry} (H : St w W g s 0 (.pointer (some ⟨q, 0, none⟩)) L 0 (-1) [])
    (hD : DkB W q m hx sl) (hq : q < g) (hs : s.size ≤ 100000) (hk0 : knd s 0 ≠ 0) (hk1 : knd s 0 ≠ 1)
    (hV : ∀ U, St w U g s 0 (.pointer (some ⟨q, 0, none⟩)) L 0 (-1) [] → Calls Tryz.prog 58 #[.pointer (some ⟨g, 0, none⟩)] U fun e w' => e = .panicked ch ∧ Below g w w') :
    Calls Tryz.prog 27 #[.pointer (some ⟨q, 0, none⟩), .pointer (some ⟨g, 0, none⟩)] W fun e w' => e = .panicked ch ∧ Below g w w' ∧ DkB w' q m hx sl := by
  have hDw : ∀ U, St w U g s 0 (.pointer (some ⟨q, 0, none⟩)) L 0 (-1) [] → Below g W U → DkB U q m hx sl := fun U _ hb => hD.keep hb hq
  obtain ⟨c2, c3, c4⟩ := H.piece
  have hcut := fun U => ccut_walk s (nxt s 0) (nxt_le (Nat.zero_le _)) hs U
  have hnm := fun U => named_no (knd s 0) (txt s 0) (plc s 0) hk1 U
  have g1 : ((knd s 0 : Int) == 0) = false := by rw [beq_eq_false_iff_ne]; omega
  have g2 : ((knd s 0 : Int) == 1) = false := by rw [beq_eq_false_iff_ne]; omega
  obtain ⟨hb0, v, hr, ho⟩ := id H
  have c0 : W.cell? ⟨g, 0, none⟩ = some (.string s) := hr.cell 0
  have c1 : W.cell? ⟨g, 1, none⟩ = some (.int .i64 (nxt s 0 : Int)) := hr.cell 1
  have hlt := hr.lt
  have HD0 := Lib.hid (show DkB w q m hx sl from (hb0.block q hq).symm.trans hD)
  have HST := Lib.hid H
  have HV := Lib.hid hV
  have HK := Lib.hid hD
  have HG := Lib.hid hlt
  have HQ := Lib.hid hq
  generalize knd s 0 = k at *
  generalize txt s 0 = t at *
  generalize plc s 0 = a at *
  generalize nxt s 0 = n at *
  generalize (cutK s (ovr pBln s n)).2 = n' at *
  generalize (cutK s (ovr pBln s n)).1 = k' at *
  generalize cutT s (ovr pBln s n) = t' at *
  generalize ovr pBln s n = a' at *
  have HC := Lib.hid hcut
  have HN := Lib.hid hnm
  have hA := below_alloc' W (.cells #[.int .i64 (k : Int), .string t, .int .i64 (a : Int)] 66)
  have HB0 := Lib.hid (show Box3 (W.alloc (.cells #[.int .i64 (k : Int), .string t, .int .i64 (a : Int)] 66)) W.heap.size (.int .i64 (k : Int)) (.string t) (.int .i64 (a : Int)) from ⟨by simp, by simp, by simp, by simp, by simp, by simp, by simp⟩)
  have y0 := cell_kept hA c0
  have y1 := cell_kept hA c1
  have HA := Lib.hid hA
  clear H hD hq hs hk0 hk1 hV hDw hcut hnm hb0 hr ho hlt hA
  go_enter Tryz.func27, Tryz.ntmps27
  go_upto_region 13 with fail
  go_cut [6, 7] (fun s6 s7 wx => (∃ p, s6 = .pointer (some p)) ∧ s7 = .int .i64 (n' : Int) ∧ Hid (Below (W.alloc (.cells #[.int .i64 (k : Int), .string t, .int .i64 (a : Int)] 66)).heap.size (W.alloc (.cells #[.int .i64 (k : Int), .string t, .int .i64 (a : Int)] 66)) wx))
  case first =>
    have HZ := Lib.hid (show Box3 ((W.alloc (.cells #[.int .i64 (k : Int), .string t, .int .i64 (a : Int)] 66)).alloc (.cells #[.int .i64 0, .string ⟨#[]⟩, .int .i64 0] 66)).drew (W.heap.size + 1) (.int .i64 0) (.string ⟨#[]⟩) (.int .i64 0) from (show Box3 ((W.alloc (.cells #[.int .i64 (k : Int), .string t, .int .i64 (a : Int)] 66)).alloc (.cells #[.int .i64 0, .string ⟨#[]⟩, .int .i64 0] 66)) (W.heap.size + 1) (.int .i64 0) (.string ⟨#[]⟩) (.int .i64 0) from ⟨by simp, by simp, by simp, by simp, by simp, by simp, by simp⟩))
    have v0 := cell_kept (below_alloc' _ (.cells #[.int .i64 0, .string ⟨#[]⟩, .int .i64 0] 66)) y0
    have v1 := cell_kept (below_alloc' _ (.cells #[.int .i64 0, .string ⟨#[]⟩, .int .i64 0] 66)) y1
    go_region_with ((go_at_call 50; first
      | (refine (HC.out (W.alloc (.cells #[.int .i64 (k : Int), .string t, .int .i64 (a : Int)] 66)).drew).mono ?_; rintro e w1 ⟨rfl, hb⟩; have HB := Lib.hid hb; clear hb)
      | (refine (HC.out ((W.alloc (.cells #[.int .i64 (k : Int), .string t, .int .i64 (a : Int)] 66)).alloc (.cells #[.int .i64 0, .string ⟨#[]⟩, .int .i64 0] 66)).drew).mono ?_; rintro e w1 ⟨rfl, hb⟩; obtain ⟨x0, x1, x2, z0, z1, z2, _⟩ := HZ.out.below hb; have HB := Lib.hid hb; clear hb)))
    all_goals go_wp2_with fail
    all_goals go_meet
    all_goals first
      | exact ⟨⟨_, rfl⟩, rfl, Lib.hid (below_chain ((below_dn (Below.refl _ _) 1).trans HB.out) (below_alloc' _ _))⟩
      | exact ⟨⟨_, rfl⟩, rfl, Lib.hid ((((below_chain (below_dn (below_alloc' _ _) 1) HB.out).setCell (p := ⟨W.heap.size + 1, 0, none⟩) (by simp) _).setCell (p := ⟨W.heap.size + 1, 1, none⟩) (by simp) _).setCell (p := ⟨W.heap.size + 1, 2, none⟩) (by simp) _)⟩
  case rest =>
    obtain ⟨⟨p6, rfl⟩, rfl, HX⟩ := hcut
    obtain ⟨r0, r1, r2, _⟩ := HB0.out.below HX.out
    have HS := Lib.hid ((HST.out.below HA.out).below HX.out)
    have HK2 := Lib.hid ((HK.out.keep HA.out HK.out.lt).keep HX.out (HK.out.keep HA.out HK.out.lt).lt)
    clear HC HB0 HST HA HX HK c0 c1 y0 y1 c2 c3 c4
    go_wp2_with fail
    refine (HN.out _).mono ?_
    rintro e w2 ⟨rfl, hb2⟩
    have HS2 := Lib.hid (HS.out.below hb2)
    have HK3 := Lib.hid (HK2.out.keep hb2 HK2.out.lt)
    have HV2 := Lib.hid (HV.out w2 HS2.out)
    clear hb2 HS HK2 HN r0 r1 r2
    go_wp2_with fail
    refine HV2.out.mono ?_
    rintro e w3 ⟨rfl, h3⟩
    have H3 := Lib.hid h3
    have HK4 := Lib.hid (HD0.out.keep h3 HQ.out)
    clear h3 HV2
    go_wp2_with fail
    exact ⟨rfl, rfl, H3.out, HK4.out⟩

end Go.Proofs.YtibjogbalmbeeaaGreatDoor
