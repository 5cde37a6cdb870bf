/- The law Spelled, plain: the same number, spelt otherwise, is read as the same pattern. -/
import Derived.Test.YtmfjimmodaofdaaGreatDoorLu
namespace Go.Proofs.YtmfjimmodaofdaaGreatDoor
open Go.RowKit

theorem spell {f : Fm} {T S W : List UInt8} {pt : Option (List UInt8)} {ex : Option (UInt8 × List UInt8 × List UInt8)} {v : Nat} {k : Int} (h : ParOk f (bs T) v k) (hT : T = S ++ (W ++ (ptT pt ++ exT ex))) (hS : sgOk S) (hW : W.all isDec = true) (hP : (ptD pt).all isDec = true) (hne : W ++ ptD pt ≠ []) (hx : exOk ex) (hl : T.length ≤ 4000)
    {m : Nat} {e : Int} (j : Nat) (he : e = exV ex - ((ptD pt).length : Int) + (j : Int)) (hm : dcV (W ++ ptD pt) = m * 10 ^ j) :
    k = 0 ∧ ∃ p, IsPat f (tn m e) (td e) p ∧ p ≤ f.inf ∧ v = sgn f (decide (S = [45])) p := by
  obtain ⟨h1, p, h2, h3, h4⟩ := par_form h hT hS hW hP hne hx hl
  exact ⟨h1, p, (pat_same j he hm).1 h2, h3, h4⟩
theorem exS_form (e : Int) : ∃ S X, exS e = 101 :: (S ++ X) ∧ Lib.itoa e = S ++ X ∧ sgOk S ∧ X.all isDec = true ∧ X ≠ [] ∧ (e.natAbs ≤ vast → ∀ E, exV (some (E, S, X)) = e) := by
  obtain ⟨S, X, h1, h2, h3, h4, h5⟩ := itoa_form e
  exact ⟨S, X, by unfold exS; rw [h1], h1, h2, h3, h4, fun h E => h5 h⟩
theorem smS_form (e : Int) (h : e.natAbs ≤ vast) : ∃ S X, smS e = S ++ X ∧ sgOk S ∧ X.all isDec = true ∧ X ≠ [] ∧ (∀ E, exV (some (E, S, X)) = e) ∧ (smS e).length ≤ 2 + (Lib.decDigits e.natAbs).length := by
  obtain ⟨d1, d2, _, d4⟩ := dcV_digits e.natAbs
  refine ⟨if e < 0 then [45] else [43], 48 :: Lib.decDigits e.natAbs, rfl, ?_, by rw [List.all_cons, all_dec d2]; decide, by simp, ?_, ?_⟩
  · split
    · exact .inr (.inr rfl)
    · exact .inr (.inl rfl)
  · intro E
    rw [exV_some, dcV_zero_cons, d1]
    by_cases he : e < 0
    · rw [if_pos he, if_pos rfl]; omega
    · rw [if_neg he, if_neg (by decide)]; omega
  · unfold smS
    split <;> (simp; omega)
theorem exS_len (e : Int) (h1 : -10000000 ≤ e) (h2 : e ≤ 10000000) : (exS e).length ≤ 21 := by
  unfold exS
  rw [List.length_cons]
  have := itoa_len e h1 h2
  omega
/-- The nine spellings. -/
def spl (D : List UInt8) (e : Int) : List (List UInt8) :=
  [[48, 48, 48] ++ D ++ exS e, D ++ [48, 48] ++ exS (e - 2), D ++ [46] ++ exS e, D ++ [46, 48, 48, 48] ++ exS e, [48, 46] ++ D ++ exS (e + D.length), [46] ++ D ++ exS (e + D.length), [43] ++ D ++ exS e,
   D.take 1 ++ [46] ++ D.drop 1 ++ [69] ++ Lib.itoa (e + D.length - 1), D ++ [48, 48, 48, 48, 101] ++ smS (e - 4)]
theorem app_ne (D X : List UInt8) (h : 1 ≤ D.length) : D ++ X ≠ [] := fun e => by
  have := congrArg List.length e
  rw [List.length_append, List.length_nil] at this
  omega
theorem zeros_eq (k : Nat) (l : List UInt8) (D : List UInt8) (h : l = List.replicate k 48) : dcV (D ++ l) = dcV D * 10 ^ k := by rw [h, dcV_zeros]
theorem spl_len {D : List UInt8} (hD1 : 1 ≤ D.length) (hD2 : D.length ≤ 20) {e : Int} (e1 : -100000 ≤ e) (e2 : e ≤ 100000) {T : List UInt8} (hT : T ∈ spl D e) : T.length ≤ 100 := by
  have l0 := exS_len e (by omega) (by omega)
  have l1 := exS_len (e - 2) (by omega) (by omega)
  have l2 := exS_len (e + D.length) (by omega) (by omega)
  have l3 := itoa_len (e + D.length - 1) (by omega) (by omega)
  have l4 := (smS_form (e - 4) (by unfold vast; omega)).choose_spec.choose_spec.2.2.2.2.2
  have l5 : (Lib.decDigits (e - 4).natAbs).length ≤ 20 := digs_20 (by omega)
  unfold spl at hT
  simp only [List.mem_cons, List.not_mem_nil, or_false] at hT
  rcases hT with e | e | e | e | e | e | e | e | e <;> rw [e] <;> simp only [List.length_append, List.length_cons, List.length_nil, List.length_take, List.length_drop] <;> omega
theorem spl_ok {f : Fm} {D : List UInt8} (hD : D.all isDec = true) (hD1 : 1 ≤ D.length) (hD2 : D.length ≤ 20) {e : Int} (e1 : -100000 ≤ e) (e2 : e ≤ 100000) {T : List UInt8} (hT : T ∈ spl D e) {v : Nat} {k : Int} (h : ParOk f (bs T) v k) :
    k = 0 ∧ ∃ p, IsPat f (tn (dcV D) e) (td e) p ∧ p ≤ f.inf ∧ v = p := by
  have hlen := spl_len hD1 hD2 e1 e2 hT
  have fin : ∀ {S : List UInt8}, S ≠ [45] → (k = 0 ∧ ∃ p, IsPat f (tn (dcV D) e) (td e) p ∧ p ≤ f.inf ∧ v = sgn f (decide (S = [45])) p) → k = 0 ∧ ∃ p, IsPat f (tn (dcV D) e) (td e) p ∧ p ≤ f.inf ∧ v = p := fun hS h => by
    rw [decide_eq_false hS] at h; exact h
  have h0 : ∀ l : List UInt8, ([] : List UInt8).length = 0 := fun _ => rfl
  have hd := List.take_append_drop 1 D
  have hD' := hD
  rw [← hd] at hD'
  obtain ⟨a1, a2⟩ := all_left hD'
  unfold spl at hT
  simp only [List.mem_cons, List.not_mem_nil, or_false] at hT
  rcases hT with e0 | e0 | e0 | e0 | e0 | e0 | e0 | e0 | e0
  · obtain ⟨S, X, x1, _, x2, x3, x4, x5⟩ := exS_form e
    have x5 := x5 (by unfold vast; omega) 101
    exact fin (S := []) (by decide) (spell h (W := [48, 48, 48] ++ D) (pt := none) (ex := some (101, S, X)) (by rw [e0, x1]; simp [ptT, exT]) (.inl rfl) (by rw [List.all_append, hD]; decide) rfl (by simp) ⟨.inl rfl, x2, x3, x4⟩ (by omega) 0 (by rw [x5]; show e = e - (0 : Int) + (0 : Int); omega) (by
      rw [show ([48, 48, 48] ++ D) ++ ptD none = List.replicate 3 48 ++ D by simp [ptD], zeros_dcV]; omega))
  · obtain ⟨S, X, x1, _, x2, x3, x4, x5⟩ := exS_form (e - 2)
    have x5 := x5 (by unfold vast; omega) 101
    exact fin (S := []) (by decide) (spell h (W := D ++ [48, 48]) (pt := none) (ex := some (101, S, X)) (by rw [e0, x1]; simp [ptT, exT]) (.inl rfl) (by rw [List.all_append, hD]; decide) rfl (by simp) ⟨.inl rfl, x2, x3, x4⟩ (by omega) 2 (by rw [x5]; show e = e - 2 - (0 : Int) + (2 : Int); omega) (by
      rw [show (D ++ [48, 48]) ++ ptD none = D ++ List.replicate 2 48 by simp [ptD], dcV_zeros]))
  · obtain ⟨S, X, x1, _, x2, x3, x4, x5⟩ := exS_form e
    have x5 := x5 (by unfold vast; omega) 101
    exact fin (S := []) (by decide) (spell h (W := D) (pt := some []) (ex := some (101, S, X)) (by rw [e0, x1]; simp [ptT, exT]) (.inl rfl) hD rfl (app_ne _ _ hD1) ⟨.inl rfl, x2, x3, x4⟩ (by omega) 0 (by rw [x5]; show e = e - (0 : Int) + (0 : Int); omega) (by
      rw [show D ++ ptD (some []) = D by simp [ptD]]; omega))
  · obtain ⟨S, X, x1, _, x2, x3, x4, x5⟩ := exS_form e
    have x5 := x5 (by unfold vast; omega) 101
    exact fin (S := []) (by decide) (spell h (W := D) (pt := some [48, 48, 48]) (ex := some (101, S, X)) (by rw [e0, x1]; simp [ptT, exT]) (.inl rfl) hD (by decide) (app_ne _ _ hD1) ⟨.inl rfl, x2, x3, x4⟩ (by omega) 3 (by rw [x5]; show e = e - (3 : Int) + (3 : Int); omega) (by
      rw [show D ++ ptD (some [48, 48, 48]) = D ++ List.replicate 3 48 from rfl, dcV_zeros]))
  · obtain ⟨S, X, x1, _, x2, x3, x4, x5⟩ := exS_form (e + D.length)
    have x5 := x5 (by unfold vast; omega) 101
    exact fin (S := []) (by decide) (spell h (W := [48]) (pt := some D) (ex := some (101, S, X)) (by rw [e0, x1]; simp [ptT, exT]) (.inl rfl) (by decide) hD (by simp) ⟨.inl rfl, x2, x3, x4⟩ (by omega) 0 (by rw [x5]; show e = e + D.length - (D.length : Int) + (0 : Int); omega) (by
      rw [show ([48] : List UInt8) ++ ptD (some D) = 48 :: D from rfl, dcV_zero_cons]; omega))
  · obtain ⟨S, X, x1, _, x2, x3, x4, x5⟩ := exS_form (e + D.length)
    have x5 := x5 (by unfold vast; omega) 101
    exact fin (S := []) (by decide) (spell h (W := []) (pt := some D) (ex := some (101, S, X)) (by rw [e0, x1]; simp [ptT, exT]) (.inl rfl) rfl hD (by show [] ++ D ≠ []; rw [List.nil_append]; intro e; rw [e] at hD1; simp at hD1) ⟨.inl rfl, x2, x3, x4⟩ (by omega) 0 (by rw [x5]; show e = e + D.length - (D.length : Int) + (0 : Int); omega) (by
      rw [show ([] : List UInt8) ++ ptD (some D) = D from rfl]; omega))
  · obtain ⟨S, X, x1, _, x2, x3, x4, x5⟩ := exS_form e
    have x5 := x5 (by unfold vast; omega) 101
    exact fin (S := [43]) (by decide) (spell h (W := D) (pt := none) (ex := some (101, S, X)) (by rw [e0, x1]; simp [ptT, exT]) (.inr (.inl rfl)) hD rfl (app_ne _ _ hD1) ⟨.inl rfl, x2, x3, x4⟩ (by omega) 0 (by rw [x5]; show e = e - (0 : Int) + (0 : Int); omega) (by
      rw [show D ++ ptD none = D by simp [ptD]]; omega))
  · obtain ⟨S, X, _, x1, x2, x3, x4, x5⟩ := exS_form (e + D.length - 1)
    have x5 := x5 (by unfold vast; omega) 69
    exact fin (S := []) (by decide) (spell h (W := D.take 1) (pt := some (D.drop 1)) (ex := some (69, S, X)) (by rw [e0, x1]; simp [ptT, exT]) (.inl rfl) a1 a2 (by show D.take 1 ++ D.drop 1 ≠ []; rw [hd]; intro e; rw [e] at hD1; simp at hD1) ⟨.inr rfl, x2, x3, x4⟩ (by omega) 0 (by rw [x5]; show e = e + D.length - 1 - ((D.drop 1).length : Int) + (0 : Int); rw [List.length_drop]; omega) (by
      rw [show D.take 1 ++ ptD (some (D.drop 1)) = D from hd]; omega))
  · obtain ⟨S, X, x1, x2, x3, x4, x5, _⟩ := smS_form (e - 4) (by unfold vast; omega)
    have x5 := x5 101
    exact fin (S := []) (by decide) (spell h (W := D ++ [48, 48, 48, 48]) (pt := none) (ex := some (101, S, X)) (by rw [e0, x1]; simp [ptT, exT]) (.inl rfl) (by rw [List.all_append, hD]; decide) rfl (by simp) ⟨.inl rfl, x2, x3, x4⟩ (by omega) 4 (by rw [x5]; show e = e - 4 - (0 : Int) + (4 : Int); omega) (by
      rw [show (D ++ [48, 48, 48, 48]) ++ ptD none = D ++ List.replicate 4 48 by simp [ptD], dcV_zeros]))
/-- The number itself, and its opposite. -/
theorem num_ok {f : Fm} {D S0 : List UInt8} (hS0 : sgOk S0) (hD : D.all isDec = true) (hD1 : 1 ≤ D.length) (hD2 : D.length ≤ 20) {e : Int} (e1 : -100000 ≤ e) (e2 : e ≤ 100000) {v : Nat} {k : Int} (h : ParOk f (bs (S0 ++ D ++ exS e)) v k) :
    k = 0 ∧ ∃ p, IsPat f (tn (dcV D) e) (td e) p ∧ p ≤ f.inf ∧ v = sgn f (decide (S0 = [45])) p := by
  have hSl : S0.length ≤ 1 := by rcases hS0 with e | e | e <;> rw [e] <;> simp
  have l0 := exS_len e (by omega) (by omega)
  obtain ⟨S, X, x1, _, x2, x3, x4, x5⟩ := exS_form e
  have x5 := x5 (by unfold vast; omega) 101
  exact spell h (W := D) (pt := none) (ex := some (101, S, X)) (by rw [x1]; simp [ptT, exT]) hS0 hD rfl (app_ne _ _ hD1) ⟨.inl rfl, x2, x3, x4⟩ (by rw [List.length_append, List.length_append]; omega) 0 (by rw [x5]; show e = e - (0 : Int) + (0 : Int); omega) (by
      rw [show D ++ ptD none = D by simp [ptD]]; omega)
end Go.Proofs.YtmfjimmodaofdaaGreatDoor
