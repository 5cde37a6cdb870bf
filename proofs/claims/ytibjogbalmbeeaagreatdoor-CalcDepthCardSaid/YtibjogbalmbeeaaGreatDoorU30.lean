/- Plain facts: what Parse reads in a text that is spelt as a sign, digits, a point and digits, an exponent; and in what Print lays out. · Plain facts: how the texts of numbers are cut by calc. No program in sight. -/
import Derived.Test.YtibjogbalmbeeaaGreatDoorU23
import Derived.Test.YtibjogbalmbeeaaGreatDoorU29
import Derived.Test.YtibjogbalmbeeaaGreatDoorU06

namespace Go.Proofs.YtibjogbalmbeeaaGreatDoor
open Go.RowKit

theorem by8_in {T A D R : List UInt8} (hT : T = A ++ (D ++ R)) {j : Nat} (hj : j < D.length) : by8 (bs T) (A.length + j) = D[j] := by
  subst hT
  rw [bs_by8, List.getD_eq_getElem?_getD, List.getElem?_append_right (Nat.le_add_right _ _), Nat.add_sub_cancel_left, List.getElem?_append_left hj, List.getElem?_eq_getElem hj]
  rfl
theorem by8_hd {T A R : List UInt8} {c : UInt8} (hT : T = A ++ c :: R) : by8 (bs T) A.length = c := by
  subst hT
  rw [bs_by8, List.getD_eq_getElem?_getD, List.getElem?_append_right (Nat.le_refl _), Nat.sub_self]
  rfl
theorem len_at {T A R : List UInt8} (hT : T = A ++ R) : (bs T).size = A.length + R.length := by rw [bs_size, hT, List.length_append]
theorem bs_dl (A : List UInt8) : (bs A).data.toList = A := by show A.toArray.toList = A; simp
end Go.Proofs.YtibjogbalmbeeaaGreatDoor

namespace Go.Proofs.YtibjogbalmbeeaaGreatDoor

/-- A set of bytes ends where it ends. -/
theorem ovr_run {p : UInt8 → Bool} {T A D R : List UInt8} (hT : T = A ++ (D ++ R)) (hD : ∀ c ∈ D, p c = true) (hR : ∀ c t, R = c :: t → p c = false) : ovr p (bs T) A.length = A.length + D.length := by
  have hl := len_at hT
  rw [List.length_append] at hl
  refine ovr_eq (by omega) (fun h => ?_) _ _ rfl (by omega) (fun j h1 h2 => ?_)
  · cases hR0 : R with
    | nil => rw [hR0] at hl; simp at hl; omega
    | cons c t =>
      have := by8_hd (T := T) (A := A ++ D) (R := t) (c := c) (by rw [hT, hR0, List.append_assoc])
      rw [List.length_append] at this
      rw [this]; exact hR c t hR0
  · obtain ⟨i, rfl⟩ : ∃ i, j = A.length + i := ⟨j - A.length, by omega⟩
    rw [by8_in hT (by omega)]
    exact hD _ (List.getElem_mem _)
end Go.Proofs.YtibjogbalmbeeaaGreatDoor
