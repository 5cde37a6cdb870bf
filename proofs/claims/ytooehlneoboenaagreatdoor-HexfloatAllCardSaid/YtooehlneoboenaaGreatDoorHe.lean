/- Walks of hexfloat's reader: number. -/
import Derived.Test.YtooehlneoboenaaGreatDoorHd
namespace Go.Proofs.YtooehlneoboenaaGreatDoor
open Go.RowKit

/-- The digits from j on, those on both sides of a point; how many stand behind the point; where they end. -/
def dgD (s : ByteArray) (j : Nat) : ByteArray := if hxE s j < s.size ∧ by8 s (hxE s j) = 46 then s.extract j (hxE s j) ++ s.extract (hxE s j + 1) (hxE s (hxE s j + 1)) else s.extract j (hxE s j)
def dgB (s : ByteArray) (j : Nat) : Nat := if hxE s j < s.size ∧ by8 s (hxE s j) = 46 then (s.extract (hxE s j + 1) (hxE s (hxE s j + 1))).size else 0
def dgE (s : ByteArray) (j : Nat) : Nat := if hxE s j < s.size ∧ by8 s (hxE s j) = 46 then hxE s (hxE s j + 1) else hxE s j
/-- The number of these digits. -/
def dgV (s : ByteArray) (j : Nat) : Nat := hv (by8 (dgD s j)) (dgD s j).size (dgD s j).size
/-- The exponent from q on, the sign told. -/
def exV (s : ByteArray) (neg : Bool) (q : Nat) : Int := if neg then -((dv s q (dcE s q - q) : Nat) : Int) else ((dv s q (dcE s q - q) : Nat) : Int)
/-- The number that stands from i on: mantissa, exponent, where it ends. -/
def numOf (s : ByteArray) (i : Nat) : Option (Nat × Int × Nat) :=
  if ¬ (i < s.size ∧ by8 s i = 48) then none else
  if ¬ (i + 1 < s.size ∧ (by8 s (i + 1) = 120 ∨ by8 s (i + 1) = 88)) then none else
  if (dgD s (i + 2)).size = 0 then none else
  if ¬ (dgE s (i + 2) < s.size ∧ (by8 s (dgE s (i + 2)) = 112 ∨ by8 s (dgE s (i + 2)) = 80)) then none else
  if ¬ (sgI s (dgE s (i + 2) + 1) < s.size ∧ isDec (by8 s (sgI s (dgE s (i + 2) + 1))) = true) then none else
  some (dgV s (i + 2), exV s (sgB s (dgE s (i + 2) + 1)) (sgI s (dgE s (i + 2) + 1)) - 4 * dgB s (i + 2), dcE s (sgI s (dgE s (i + 2) + 1)))
/-- What number comes to. -/
def NumPost (b : Nat) (s : ByteArray) (i : Nat) (w : World) (e : Ending) (w' : World) : Prop :=
  (∃ a x k v, numOf s i = some (a, x, k) ∧ e = .returned (.tuple #[v, .int .i64 x]) ∧ NatAt w' v a ∧ Box2 w' b (.string s) (.int .i64 ((k : Nat) : Int)) ∧ Below b w w') ∨
  (numOf s i = none ∧ (∃ j, e = .panicked [faultAt j]) ∧ Below b w w')
theorem NumPost.no {b : Nat} {s : ByteArray} {i : Nat} {w w' : World} (h : numOf s i = none) (j : Int) (hb : Below b w w') : NumPost b s i w (.panicked [faultAt j]) w' := .inr ⟨h, ⟨j, rfl⟩, hb⟩
theorem by8_extract (s : ByteArray) (a b j : Nat) (_hb : b ≤ s.size) (hj : j < b - a) : by8 (s.extract a b) j = by8 s (a + j) := by
  unfold by8
  rw [Lib.extract_data]
  simp only [List.getD_eq_getElem?_getD, List.getElem?_take, List.getElem?_drop, hj, if_true]
theorem runTo_all (p : UInt8 → Bool) (s : ByteArray) (f i j : Nat) (h1 : i ≤ j) (h2 : j < runTo p s f i) : p (by8 s j) = true := by
  induction f generalizing i with
  | zero => unfold runTo at h2; omega
  | succ f ih =>
    unfold runTo at h2
    split at h2
    · rename_i h
      by_cases e : i = j
      · rw [← e]; exact h.2
      · exact ih (i + 1) (by omega) h2
    · omega
theorem hx_all (s : ByteArray) (i j : Nat) (h1 : i ≤ j) (h2 : j < hxE s i) : isHex (by8 s j) = true := runTo_all _ _ _ _ _ h1 h2
theorem size_ext (s : ByteArray) (a b : Nat) (hb : b ≤ s.size) : (s.extract a b).size = b - a := by
  rw [ByteArray.size_extract, Nat.min_eq_left hb]
theorem by8_append (s t : ByteArray) (j : Nat) : by8 (s ++ t) j = if j < s.size then by8 s j else by8 t (j - s.size) := by
  have e : (s ++ t).data.toList = s.data.toList ++ t.data.toList := by simp
  have hl : s.data.toList.length = s.size := by rw [Array.length_toList]; rfl
  unfold by8
  rw [e]
  simp only [List.getD_eq_getElem?_getD]
  split
  · rw [List.getElem?_append_left (by omega)]
  · rw [List.getElem?_append_right (by omega), hl]
theorem dg_hex (s : ByteArray) (j : Nat) (hj : j ≤ s.size) : ∀ k, k < (dgD s j).size → isHex (by8 (dgD s j) k) = true := by
  have h1 := runTo_le isHex s s.size j hj
  have h2 := runTo_ge isHex s s.size j
  intro k hk
  unfold dgD at hk ⊢
  change hxE s j ≤ s.size at h1
  change j ≤ hxE s j at h2
  split at hk
  · rename_i h
    have h3 : hxE s (hxE s j + 1) ≤ s.size := runTo_le isHex s s.size _ h.1
    rw [if_pos h]
    rw [ByteArray.size_append, size_ext _ _ _ h1, size_ext _ _ _ h3] at hk
    rw [by8_append, size_ext _ _ _ h1]
    split
    · rw [by8_extract _ _ _ _ h1 (by omega)]; exact hx_all _ j _ (by omega) (by omega)
    · rw [by8_extract _ _ _ _ h3 (by omega)]; exact hx_all _ (hxE s j + 1) _ (by omega) (by omega)
  · rename_i h
    rw [if_neg h]
    rw [size_ext _ _ _ h1] at hk
    rw [by8_extract _ _ _ _ h1 hk]; exact hx_all _ j _ (by omega) (by omega)
theorem dg_size (s : ByteArray) (j : Nat) (hj : j ≤ s.size) : (dgD s j).size ≤ s.size ∧ dgB s j ≤ s.size ∧ dgE s j ≤ s.size := by
  have h1 : hxE s j ≤ s.size := runTo_le isHex s s.size j hj
  have h2 : j ≤ hxE s j := runTo_ge isHex s s.size j
  unfold dgD dgB dgE
  split
  · rename_i h
    have h3 : hxE s (hxE s j + 1) ≤ s.size := runTo_le isHex s s.size _ h.1
    have h4 : hxE s j + 1 ≤ hxE s (hxE s j + 1) := runTo_ge isHex s s.size _
    rw [ByteArray.size_append, size_ext _ _ _ h1, size_ext _ _ _ h3]
    omega
  · rw [size_ext _ _ _ h1]; omega
end Go.Proofs.YtooehlneoboenaaGreatDoor
