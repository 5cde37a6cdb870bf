/- Plain law: what the reference's Parse answers is what the program's answers. -/
import Derived.Test.YtooehlneoboenaaGreatDoorTg
import Derived.Test.YtooehlneoboenaaGreatDoorTh
namespace Go.Proofs.YtooehlneoboenaaGreatDoor

/-- The sign in front. -/
def sgH (l : List UInt8) : List UInt8 := match l with | c :: _ => if c = 43 ∨ c = 45 then [c] else [] | [] => []
theorem sg_split (l : List UInt8) : l = sgH l ++ sgT l := by
  cases l with
  | nil => rfl
  | cons c t =>
    unfold sgH sgT
    by_cases h : c = 43 ∨ c = 45
    · simp only [if_pos h]; rfl
    · simp only [if_neg h]; rfl
theorem sgI_bs (l : List UInt8) : sgI (bs l) 0 = (sgH l).length ∧ sgB (bs l) 0 = sgM l := by
  cases l with
  | nil => exact ⟨rfl, rfl⟩
  | cons c t =>
    have h0 : by8 (bs (c :: t)) 0 = c := rfl
    have hs : 0 < (bs (c :: t)).size := by rw [bs_size]; simp
    unfold sgI sgB sgH sgM
    rw [h0]
    refine ⟨?_, by simp [hs]⟩
    by_cases h : c = 43 ∨ c = 45
    · rw [if_pos ⟨hs, h.symm⟩]; simp only [if_pos h]; rfl
    · rw [if_neg (fun hh => h hh.2.symm)]; simp only [if_neg h]; rfl
/-- What the reference's Parse finds. -/
def docO (f : Fm) (l : List UInt8) : Option Nat :=
  if l = [110, 97, 110] then some f.quiet else if sgT l = [105, 110, 102] then some (sgn f (sgM l) f.inf) else
  match rfNum (sgT l) with | none => none | some v => some (sgn f (sgM l) (hxPat f v.1 v.2))
theorem num_end {s : ByteArray} {i a k : Nat} {x : Int} (h : numOf s i = some (a, x, k)) : k ≤ s.size := by
  unfold numOf at h
  split at h
  · cases h
  split at h
  · cases h
  split at h
  · cases h
  split at h
  · cases h
  split at h
  · cases h
  rename_i g1 g2 g3 g4 g5
  have g5 := Classical.not_not.1 g5
  injection h with h
  injection h with _ h
  injection h with _ hk
  rw [← hk]
  exact runTo_le _ _ _ _ (by omega)
theorem doc_parse (f : Fm) (l : List UInt8) : parseOf f (bs l) = docO f l := by
  obtain ⟨e1, e2⟩ := sgI_bs l
  have hl := sg_split l
  unfold parseOf docO
  rw [e1, e2, bs_list]
  by_cases hn : l = [110, 97, 110]
  · rw [if_pos (by rw [hn]; rfl), if_pos hn]
  rw [if_neg (by simpa using hn), if_neg hn]
  have hx : ((bs l).extract (sgH l).length (bs l).size).toList = sgT l := by
    rw [Lib.toList_data, Lib.extract_data]
    have h1 : (bs l).data.toList = l := rfl
    rw [h1, bs_size, List.take_of_length_le (by rw [List.length_drop]; omega)]
    conv => lhs; rw [hl]
    conv => lhs; arg 1; rw [← hl]
    exact List.drop_left
  rw [hx]
  by_cases hi : sgT l = [105, 110, 102]
  · rw [if_pos (by rw [hi]; rfl), if_pos hi]
  rw [if_neg (by simpa using hi), if_neg hi]
  have key := fun a e => rf_num (pre := sgH l) (R := sgT l) (a := a) (e := e)
  rw [← hl] at key
  cases hr : rfNum (sgT l) with
  | none =>
    cases hnm : numOf (bs l) (sgH l).length with
    | none => rfl
    | some v =>
      obtain ⟨a, x, k⟩ := v
      have hk := num_end hnm
      by_cases hkk : k < (bs l).size
      · simp only [if_pos hkk]
      · exfalso
        have e : k = (bs l).size := by omega
        rw [e] at hnm
        have := (key a x).2 hnm
        rw [hr] at this
        cases this
  | some v =>
    obtain ⟨a, x⟩ := v
    rw [(key a x).1 hr]
    simp
end Go.Proofs.YtooehlneoboenaaGreatDoor
