/- Walks of hexfloat's reader: take, fail, must, sign. -/
import Derived.Test.YtooehlneoboenaaGreatDoorRd
import Derived.Lib.IndexAny
namespace Go.Proofs.YtooehlneoboenaaGreatDoor
open Go.RowKit

/-- The byte at i. -/
def by8 (s : ByteArray) (i : Nat) : UInt8 := s.data.toList.getD i 0
theorem run_byte (s : ByteArray) (i : Nat) (h : i < s.size) (_hs : s.size ≤ 9223372036854775807) (w : World) : (Instr.index 9 (.string s) (.int .i64 (i : Int))).run Tryz.prog w = .ok (.int .u8 ((by8 s i).toNat : Int)) w := by
  have e : by8 s i = s[i] := by
    unfold by8
    rw [List.getD_eq_getElem?_getD, List.getElem?_eq_getElem (by rw [Array.length_toList]; exact h)]
    rfl
  rw [e]
  have h2 : (i : Int) < (s.size : Int) := by omega
  simp [go_sem, h2]

set_option maxRecDepth 100000 in
theorem take_yes (b : Nat) (s t : ByteArray) (i : Nat) (w : World) (hB : Box2 w b (.string s) (.int .i64 (i : Int))) (hi : i < s.size) (hs : s.size ≤ 100000) (hc : t.data.toList.contains (by8 s i) = true) :
    Calls Tryz.prog 53 #[.pointer (some ⟨b, 0, none⟩), .string t] w fun e w' => e = .returned (.tuple #[.int .u8 ((by8 s i).toNat : Int), .bool true]) ∧ Box2 w' b (.string s) (.int .i64 ((i + 1 : Nat) : Int)) ∧ Below b w w' := by
  obtain ⟨b0, b1, b2, b3, b4⟩ := hB
  have hix := fun w1 => run_byte s i hi (by omega) w1
  rw [Lib.contains_iff_indexByte] at hc
  have hge : decide (0 ≤ Lib.indexByte t.data.toList (by8 s i)) = true := hc
  have hge2 : 0 ≤ Lib.indexByte t.data.toList (by8 s i) := of_decide_eq_true hc
  have hlt : (i : Int) < (s.size : Int) := by omega
  have hit : ((by8 s i).toNat : Int).toNat.toUInt8 = by8 s i := by simp
  have HIT := Lib.hid hit
  have hi0 : 0 ≤ (i : Int) := by omega
  clear hit hc
  go_enter Tryz.func53, Tryz.ntmps53
  go_wp2_with fail
  go_quiet ((go_at_call 78; exact Calls.quiet_of_same (Tryz.strings_IndexByte _ _ _)))
  rw [HIT.out]
  go_wp2_with fail
  have hB1 : Box2 ((w.drewN nq).setCell ⟨b, 1, none⟩ (.int .i64 ((i : Int) + 1))) b (.string s) (.int .i64 ((i : Int) + 1)) := by
    refine ⟨?_, ?_, ?_, ?_, ?_⟩
    · rw [cell_other (by simp)]; exact b0
    · exact World.cell?_setCell_same' _ _ _ (by rw [show (w.drewN nq).cell? ⟨b, 1, none⟩ = w.cell? ⟨b, 1, none⟩ from rfl, b1]; rfl)
    · simp; exact b2
    · simp; exact b3
    · simp; exact b4
  have hL1 : Below b w ((w.drewN nq).setCell ⟨b, 1, none⟩ (.int .i64 ((i : Int) + 1))) := (below_dn (Below.refl b w) _).setCell (p := ⟨b, 1, none⟩) (Nat.le_refl _) _
  generalize (w.drewN nq).setCell ⟨b, 1, none⟩ (.int .i64 ((i : Int) + 1)) = w1 at *
  clear b0 b1 b2 b3 b4
  have HB1 := Lib.hid hB1
  obtain ⟨b0, b1, b2, b3, b4⟩ := hB1
  have q1 : IntKind.i64.wrap ((i : Int) + 1 - 1) = (i : Int) := by rw [IntWalk.i64_in _ (by omega)]; omega
  go_quiet (fail)
  go_wp2
  go_ret2
  have e : ((i + 1 : Nat) : Int) = (i : Int) + 1 := by omega
  exact ⟨rfl, by rw [e]; exact HB1.out.below (below_dn (Below.refl _ _) _), below_dn hL1 _⟩

set_option maxRecDepth 100000 in
theorem take_no (b : Nat) (s t : ByteArray) (i : Nat) (w : World) (hB : Box2 w b (.string s) (.int .i64 (i : Int))) (hs : s.size ≤ 100000) (hc : i < s.size → t.data.toList.contains (by8 s i) = false) :
    Calls Tryz.prog 53 #[.pointer (some ⟨b, 0, none⟩), .string t] w fun e w' => e = .returned (.tuple #[.int .u8 0, .bool false]) ∧ Box2 w' b (.string s) (.int .i64 (i : Int)) ∧ Below b w w' := by
  have HB := Lib.hid hB
  obtain ⟨b0, b1, b2, b3, b4⟩ := hB
  by_cases hi : i < s.size
  · have hix := fun w1 => run_byte s i hi (by omega) w1
    have hc := hc hi
    rw [Lib.contains_iff_indexByte] at hc
    have hge : decide (0 ≤ Lib.indexByte t.data.toList (by8 s i)) = false := hc
    have hge2 : ¬ 0 ≤ Lib.indexByte t.data.toList (by8 s i) := of_decide_eq_false hc
    have hlt : (i : Int) < (s.size : Int) := by omega
    have hit : ((by8 s i).toNat : Int).toNat.toUInt8 = by8 s i := by simp
    have HIT := Lib.hid hit
    have hi0 : 0 ≤ (i : Int) := by omega
    clear hit hc
    go_enter Tryz.func53, Tryz.ntmps53
    go_wp2_with fail
    go_quiet ((go_at_call 78; exact Calls.quiet_of_same (Tryz.strings_IndexByte _ _ _)))
    rw [HIT.out]
    go_wp2
    go_ret2
    exact ⟨rfl, HB.out.below (below_dn (Below.refl _ _) _), below_dn (Below.refl _ _) _⟩
  · have hlt : decide ((i : Int) < (s.size : Int)) = false := decide_eq_false (by omega)
    have hlt2 : ¬ (i : Int) < (s.size : Int) := by omega
    clear hc
    go_enter Tryz.func53, Tryz.ntmps53
    go_wp2_with fail
    go_quiet (fail)
    go_wp2
    go_ret2
    exact ⟨rfl, HB.out.below (below_dn (Below.refl _ _) _), below_dn (Below.refl _ _) _⟩

/-- What the reader gives up with. -/
def faultAt (i : Int) : PanicEntry := { v := .iface 43 (.agg #[.int .i64 i]), recovered := false }

set_option maxRecDepth 100000 in
theorem fail_walk (b : Nat) (s : ByteArray) (i : Nat) (w : World) (hB : Box2 w b (.string s) (.int .i64 (i : Int))) :
    Calls Tryz.prog 34 #[.pointer (some ⟨b, 0, none⟩)] w fun e w' => e = .panicked [faultAt i] ∧ w = w' := by
  obtain ⟨b0, b1, b2, b3, b4⟩ := hB
  go_enter Tryz.func34, Tryz.ntmps34
  go_wp2
  exact ⟨rfl, rfl, rfl⟩

set_option maxRecDepth 100000 in
theorem must_yes (b : Nat) (s t : ByteArray) (i : Nat) (w : World) (hB : Box2 w b (.string s) (.int .i64 (i : Int))) (hi : i < s.size) (hs : s.size ≤ 100000) (hc : t.data.toList.contains (by8 s i) = true) :
    Calls Tryz.prog 57 #[.pointer (some ⟨b, 0, none⟩), .string t] w fun e w' => e = .returned (.tuple #[]) ∧ Box2 w' b (.string s) (.int .i64 ((i + 1 : Nat) : Int)) ∧ Below b w w' := by
  have ht := take_yes b s t i w hB hi hs hc
  have HT := Lib.hid ht
  clear ht hc hB
  go_enter Tryz.func57, Tryz.ntmps57
  go_wp2_with fail
  refine HT.out.mono ?_
  rintro e w1 ⟨rfl, hB1, hb1⟩
  have HB1 := Lib.hid hB1
  clear hB1
  go_wp2
  go_end0
  exact ⟨rfl, HB1.out, hb1⟩

set_option maxRecDepth 100000 in
theorem must_no (b : Nat) (s t : ByteArray) (i : Nat) (w : World) (hB : Box2 w b (.string s) (.int .i64 (i : Int))) (hs : s.size ≤ 100000) (hc : i < s.size → t.data.toList.contains (by8 s i) = false) :
    Calls Tryz.prog 57 #[.pointer (some ⟨b, 0, none⟩), .string t] w fun e w' => e = .panicked [faultAt i] ∧ Below b w w' := by
  have ht := take_no b s t i w hB hs hc
  have HT := Lib.hid ht
  clear ht hc hB
  go_enter Tryz.func57, Tryz.ntmps57
  go_wp2_with fail
  refine HT.out.mono ?_
  rintro e w1 ⟨rfl, hB1, hb1⟩
  have HB1 := Lib.hid hB1
  clear hB1
  go_wp2_with fail
  refine (fail_walk b s i w1 HB1.out).mono ?_
  rintro e w2 ⟨rfl, rfl⟩
  go_wp2
  exact ⟨rfl, rfl, hb1⟩

/-- What sign answers, and where it stands behind it. -/
def sgB (s : ByteArray) (i : Nat) : Bool := decide (i < s.size) && by8 s i == 45
def sgI (s : ByteArray) (i : Nat) : Nat := if i < s.size ∧ (by8 s i = 45 ∨ by8 s i = 43) then i + 1 else i
theorem sgI_le (s : ByteArray) (i : Nat) (h : i ≤ s.size) : sgI s i ≤ s.size := by unfold sgI; split <;> omega

set_option maxRecDepth 100000 in
theorem sign_walk (b : Nat) (s : ByteArray) (i : Nat) (w : World) (hB : Box2 w b (.string s) (.int .i64 (i : Int))) (hs : s.size ≤ 100000) :
    Calls Tryz.prog 30 #[.pointer (some ⟨b, 0, none⟩)] w fun e w' => e = .returned (.bool (sgB s i)) ∧ Box2 w' b (.string s) (.int .i64 ((sgI s i : Nat) : Int)) ∧ Below b w w' := by
  by_cases hc : i < s.size ∧ (by8 s i = 45 ∨ by8 s i = 43)
  · have ht := take_yes b s ⟨#[43, 45]⟩ i w hB hc.1 hs (by rcases hc.2 with h | h <;> rw [h] <;> rfl)
    have HT := Lib.hid ht
    have HI := Lib.hid (show sgI s i = i + 1 by unfold sgI; rw [if_pos hc])
    have HG := Lib.hid (show (((by8 s i).toNat : Int) == 45) = sgB s i by
      unfold sgB
      rcases hc.2 with h | h <;> rw [h] <;> simp [hc.1])
    clear ht hB hc
    go_enter Tryz.func30, Tryz.ntmps30
    go_wp2_with fail
    refine HT.out.mono ?_
    rintro e w1 ⟨rfl, hB1, hb1⟩
    have HB1 := Lib.hid hB1
    clear hB1
    go_wp2
    go_ret
    exact ⟨by rw [← HG.out]; rfl, by rw [HI.out]; exact HB1.out, hb1⟩
  · have ht := take_no b s ⟨#[43, 45]⟩ i w hB hs (fun hi => by
      have h1 : ¬ by8 s i = 45 := fun e => hc ⟨hi, .inl e⟩
      have h2 : ¬ by8 s i = 43 := fun e => hc ⟨hi, .inr e⟩
      simp [h1, h2])
    have HT := Lib.hid ht
    have HI := Lib.hid (show sgI s i = i by unfold sgI; rw [if_neg hc])
    have HG := Lib.hid (show false = sgB s i by
      unfold sgB
      by_cases hi : i < s.size
      · have h1 : ¬ by8 s i = 45 := fun e => hc ⟨hi, .inl e⟩
        simp [h1]
      · simp [hi])
    clear ht hB hc
    go_enter Tryz.func30, Tryz.ntmps30
    go_wp2_with fail
    refine HT.out.mono ?_
    rintro e w1 ⟨rfl, hB1, hb1⟩
    have HB1 := Lib.hid hB1
    clear hB1
    go_wp2
    go_ret
    exact ⟨by rw [← HG.out]; rfl, by rw [HI.out]; exact HB1.out, hb1⟩
end Go.Proofs.YtooehlneoboenaaGreatDoor
