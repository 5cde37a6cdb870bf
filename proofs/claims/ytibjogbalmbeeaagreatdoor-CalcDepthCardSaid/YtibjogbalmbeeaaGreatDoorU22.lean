/- Walks of decimal's reader: take, sign, digits, giveUp, exponent. · Walks of decimal's reader: exponent, number. · Walk of decimal's reader: number. · Walks of decimal: infinity, signed, ten, nearest. -/
import Derived.Test.YtibjogbalmbeeaaGreatDoorU06
import Derived.Test.YtibjogbalmbeeaaGreatDoorU11
import Derived.Test.YtibjogbalmbeeaaGreatDoorU13
import Derived.Test.YtibjogbalmbeeaaGreatDoorU15
import Derived.Test.YtibjogbalmbeeaaGreatDoorU18
import Derived.Test.YtibjogbalmbeeaaGreatDoorU19
import Derived.Test.YtibjogbalmbeeaaGreatDoorU20
import Derived.Test.YtibjogbalmbeeaaGreatDoorU21

namespace Go.Proofs.YtibjogbalmbeeaaGreatDoor
open Go.RowKit

set_option maxRecDepth 100000 in
theorem dtake_yes (b : Nat) (s : ByteArray) (i : Nat) (c : UInt8) (ci : Int) (w : World) (hci : ((c.toNat : Nat) : Int) = ci) (hB : Box2 w b (.string s) (.int .i64 (i : Int))) (hi : i < s.size) (hs : s.size ≤ 100000) (hc : by8 s i = c) :
    Calls Tryz.prog 233 #[.pointer (some ⟨b, 0, none⟩), .int .u8 ci] w fun e w' => e = .returned (.bool true) ∧ Box2 w' b (.string s) (.int .i64 ((i + 1 : Nat) : Int)) ∧ KB b w w' := by
  obtain ⟨b0, b1, b2, b3, b4⟩ := hB
  have hix := fun w1 => run_byte s i hi (by omega) w1
  rw [hc, hci] at hix
  have hlt : (i : Int) < (s.size : Int) := by omega
  have hi0 : 0 ≤ (i : Int) := by omega
  have hq : (ci == ci) = true := by simp
  clear hc hci
  go_enter Tryz.func233, Tryz.ntmps233
  go_wp2_with fail
  go_quiet (fail)
  go_wp2_with fail
  have hB1 : Box2 ((w.drewN nq).setCell ⟨b, 1, none⟩ (.int .i64 ((i : Int) + 1))) b (.string s) (.int .i64 ((i : Int) + 1)) := by
    refine ⟨?_, ?_, ?_, ?_, ?_⟩
    · rw [cell_other (by simp)]; exact b0
    · exact World.cell?_setCell_same' _ _ _ (by rw [show (w.drewN nq).cell? ⟨b, 1, none⟩ = w.cell? ⟨b, 1, none⟩ from rfl, b1]; rfl)
    · simp; exact b2
    · simp; exact b3
    · simp; exact b4
  have hL1 : KB b w ((w.drewN nq).setCell ⟨b, 1, none⟩ (.int .i64 ((i : Int) + 1))) := ((KB.refl b w).dn _).set 1 _
  go_ret
  have e : ((i + 1 : Nat) : Int) = (i : Int) + 1 := by omega
  exact ⟨rfl, by rw [e]; exact hB1, hL1⟩

set_option maxRecDepth 100000 in
theorem dtake_no (b : Nat) (s : ByteArray) (i : Nat) (c : UInt8) (ci : Int) (w : World) (hci : ((c.toNat : Nat) : Int) = ci) (hB : Box2 w b (.string s) (.int .i64 (i : Int))) (hs : s.size ≤ 100000) (hc : i < s.size → by8 s i ≠ c) :
    Calls Tryz.prog 233 #[.pointer (some ⟨b, 0, none⟩), .int .u8 ci] w fun e w' => e = .returned (.bool false) ∧ Box2 w' b (.string s) (.int .i64 (i : Int)) ∧ KB b w w' := by
  have HB := Lib.hid hB
  obtain ⟨b0, b1, b2, b3, b4⟩ := hB
  by_cases hi : i < s.size
  · have hix := fun w1 => run_byte s i hi (by omega) w1
    have hlt : (i : Int) < (s.size : Int) := by omega
    have hi0 : 0 ≤ (i : Int) := by omega
    have hq : ((((by8 s i).toNat : Nat) : Int) == ci) = false := by
      rw [beq_eq_false_iff_ne, ← hci]
      intro e
      exact hc hi (UInt8.toNat_inj.1 (by omega))
    generalize (by8 s i).toNat = x at *
    clear hc hci
    go_enter Tryz.func233, Tryz.ntmps233
    go_wp2_with fail
    go_quiet (fail)
    go_wp2
    go_ret
    exact ⟨rfl, HB.out.below (below_dn (Below.refl _ _) _), (KB.refl _ _).dn _⟩
  · have hlt : decide ((i : Int) < (s.size : Int)) = false := decide_eq_false (by omega)
    have hlt2 : ¬ (i : Int) < (s.size : Int) := by omega
    clear hc
    go_enter Tryz.func233, Tryz.ntmps233
    go_wp2_with fail
    go_quiet (fail)
    go_wp2
    go_ret
    exact ⟨rfl, HB.out.below (below_dn (Below.refl _ _) _), (KB.refl _ _).dn _⟩

/-- What the reader gives up with. -/
def dfault (i : Int) : PanicEntry := { v := .iface 271 (.agg #[.int .i64 8, .int .i64 i]), recovered := false }

set_option maxRecDepth 100000 in
theorem give_walk (b : Nat) (s : ByteArray) (i : Nat) (w : World) (hB : Box2 w b (.string s) (.int .i64 (i : Int))) :
    Calls Tryz.prog 236 #[.pointer (some ⟨b, 0, none⟩)] w fun e w' => e = .panicked [dfault i] ∧ w = w' := by
  obtain ⟨b0, b1, b2, b3, b4⟩ := hB
  go_enter Tryz.func236, Tryz.ntmps236
  go_wp2
  exact ⟨rfl, rfl, rfl⟩

set_option maxRecDepth 100000 in
theorem dsign_walk (b : Nat) (s : ByteArray) (i : Nat) (w : World) (hB : Box2 w b (.string s) (.int .i64 (i : Int))) (hs : s.size ≤ 100000) :
    Calls Tryz.prog 218 #[.pointer (some ⟨b, 0, none⟩)] w fun e w' => e = .returned (.bool (sgB s i)) ∧ Box2 w' b (.string s) (.int .i64 ((sgI s i : Nat) : Int)) ∧ KB b w w' := by
  by_cases h1 : i < s.size ∧ by8 s i = 45
  · have HT := Lib.hid (dtake_yes b s i 45 45 w rfl hB h1.1 hs h1.2)
    have HI := Lib.hid (show sgI s i = i + 1 by unfold sgI; rw [if_pos ⟨h1.1, .inl h1.2⟩])
    have HG := Lib.hid (show sgB s i = true by unfold sgB; rw [h1.2]; simp [h1.1])
    clear hB h1
    go_enter Tryz.func218, Tryz.ntmps218
    go_wp2_with fail
    refine HT.out.mono ?_
    rintro e w1 ⟨rfl, hB1, hb1⟩
    have HB1 := Lib.hid hB1
    clear hB1
    go_wp2
    go_ret
    exact ⟨by rw [HG.out]; rfl, by rw [HI.out]; exact HB1.out, hb1⟩
  · have HT := Lib.hid (dtake_no b s i 45 45 w rfl hB hs (fun h e => h1 ⟨h, e⟩))
    have HG := Lib.hid (show sgB s i = false by
      unfold sgB
      by_cases h : i < s.size
      · have : by8 s i ≠ 45 := fun e => h1 ⟨h, e⟩
        simp [this]
      · simp [h])
    by_cases h2 : i < s.size ∧ by8 s i = 43
    · have HI := Lib.hid (show sgI s i = i + 1 by unfold sgI; rw [if_pos ⟨h2.1, .inr h2.2⟩])
      have H2 := Lib.hid h2
      clear hB h1 h2
      go_enter Tryz.func218, Tryz.ntmps218
      go_wp2_with fail
      refine HT.out.mono ?_
      rintro e w1 ⟨rfl, hB1, hb1⟩
      have HB1 := Lib.hid hB1
      clear hB1
      go_wp2_with fail
      refine (dtake_yes b s i 43 43 w1 rfl HB1.out H2.out.1 hs H2.out.2).mono ?_
      rintro e w2 ⟨rfl, hB2, hb2⟩
      have HB2 := Lib.hid hB2
      clear hB2
      go_wp2
      go_ret
      exact ⟨by rw [HG.out]; rfl, by rw [HI.out]; exact HB2.out, hb1.trans hb2⟩
    · have HI := Lib.hid (show sgI s i = i by
        unfold sgI; rw [if_neg]
        rintro ⟨h, e | e⟩
        · exact h1 ⟨h, e⟩
        · exact h2 ⟨h, e⟩)
      have H2 := Lib.hid h2
      clear hB h1 h2
      go_enter Tryz.func218, Tryz.ntmps218
      go_wp2_with fail
      refine HT.out.mono ?_
      rintro e w1 ⟨rfl, hB1, hb1⟩
      have HB1 := Lib.hid hB1
      clear hB1
      go_wp2_with fail
      refine (dtake_no b s i 43 43 w1 rfl HB1.out hs (fun h e => H2.out ⟨h, e⟩)).mono ?_
      rintro e w2 ⟨rfl, hB2, hb2⟩
      have HB2 := Lib.hid hB2
      clear hB2
      go_wp2
      go_ret
      exact ⟨by rw [HG.out]; rfl, by rw [HI.out]; exact HB2.out, hb1.trans hb2⟩

theorem isDec_iff (c : UInt8) : isDec c = true ↔ 48 ≤ c.toNat ∧ c.toNat ≤ 57 := by
  refine ⟨isDec_range c, fun h => ?_⟩
  have e : c = UInt8.ofNat c.toNat := by simp
  unfold isDec decSet
  rw [e]
  obtain ⟨h1, h2⟩ := h
  generalize c.toNat = n at *
  have : n = 48 ∨ n = 49 ∨ n = 50 ∨ n = 51 ∨ n = 52 ∨ n = 53 ∨ n = 54 ∨ n = 55 ∨ n = 56 ∨ n = 57 := by omega
  rcases this with h | h | h | h | h | h | h | h | h | h <;> subst h <;> decide

set_option maxRecDepth 100000 in
set_option maxHeartbeats 1000000 in
theorem ddigits_walk (b : Nat) (s : ByteArray) (i : Nat) (w : World) (hB : Box2 w b (.string s) (.int .i64 (i : Int))) (hi : i ≤ s.size) (hs : s.size ≤ 100000) :
    Calls Tryz.prog 235 #[.pointer (some ⟨b, 0, none⟩)] w fun e w' => e = .returned (.string (s.extract i (dcE s i))) ∧ Box2 w' b (.string s) (.int .i64 ((dcE s i : Nat) : Int)) ∧ KB b w w' := by
  have HB := Lib.hid hB
  obtain ⟨b0, b1, b2, b3, b4⟩ := hB
  go_enter Tryz.func235, Tryz.ntmps235
  go_wp2_with fail
  clear b0 b1 b2 b3 b4
  go_loopw [] (fun wr => ∃ k : Nat, i ≤ k ∧ k ≤ s.size ∧ Hid (∀ j, i ≤ j → j < k → isDec (by8 s j) = true) ∧ Hid (Box2 wr b (.string s) (.int .i64 (k : Int))) ∧ Hid (KB b w wr)) (fun wr => s.size - idxOf b wr)
  case atStart => exact ⟨i, Nat.le_refl _, hi, Lib.hid (fun j h1 h2 => by omega), HB, Lib.hid (KB.refl _ _)⟩
  case round =>
    obtain ⟨k, hik, hk, HA, HK, HW⟩ := hrel
    obtain ⟨b0, b1, b2, b3, b4⟩ := HK.out
    by_cases hc : k < s.size ∧ isDec (by8 s k) = true
    · have hlt : (k : Int) < (s.size : Int) := by omega
      have hk0 : 0 ≤ (k : Int) := by omega
      have hix := fun w1 => run_byte s k hc.1 (by omega) w1
      have HC := Lib.hid hc.2
      obtain ⟨c1, c2⟩ := (isDec_iff _).1 hc.2
      have hkl := hc.1
      clear hc
      generalize hcc : (by8 s k).toNat = cc at *
      have g1 : (48 : Int) ≤ (cc : Int) := by omega
      have g2 : (cc : Int) ≤ 57 := by omega
      clear c1 c2 hcc
      go_wp2_with fail
      go_quiet (fail)
      go_wp2_with fail
      have hB1 : Box2 ((wr.drewN nq).setCell ⟨b, 1, none⟩ (.int .i64 ((k + 1 : Nat) : Int))) b (.string s) (.int .i64 ((k + 1 : Nat) : Int)) := by
        refine ⟨?_, ?_, ?_, ?_, ?_⟩
        · rw [cell_other (by simp)]; exact b0
        · exact World.cell?_setCell_same' _ _ _ (by rw [show (wr.drewN nq).cell? ⟨b, 1, none⟩ = wr.cell? ⟨b, 1, none⟩ from rfl, b1]; rfl)
        · simp; exact b2
        · simp; exact b3
        · simp; exact b4
      have hL1 : KB b w ((wr.drewN nq).setCell ⟨b, 1, none⟩ (.int .i64 ((k + 1 : Nat) : Int))) := (HW.out.dn _).set 1 _
      have e : ((k + 1 : Nat) : Int) = (k : Int) + 1 := by omega
      rw [e] at hB1 hL1
      go_roundw
      case rel => exact ⟨k + 1, by omega, by omega, Lib.hid (fun j h1 h2 => by by_cases e : j = k; (· rw [e]; exact HC.out); (· exact HA.out j h1 (by omega))), Lib.hid (by rw [e]; exact hB1), Lib.hid hL1⟩
      case measure => rw [idxOf_box (i := k + 1) (by rw [e]; exact hB1), idxOf_box HK.out]; omega
    · have HE := Lib.hid (show dcE s i = k from runTo_of _ _ _ _ _ hik (by omega) hk HA.out hc)
      have r1 : (i : Int) ≤ (k : Int) := by omega
      have r2 : (k : Int) ≤ (s.size : Int) := by omega
      have r3 : 0 ≤ (i : Int) := by omega
      by_cases hkl : k < s.size
      · have hlt : (k : Int) < (s.size : Int) := by omega
        have hk0 : 0 ≤ (k : Int) := by omega
        have hix := fun w1 => run_byte s k hkl (by omega) w1
        have hn : ¬ (48 ≤ (by8 s k).toNat ∧ (by8 s k).toNat ≤ 57) := fun h => hc ⟨hkl, (isDec_iff _).2 h⟩
        clear hc
        generalize hcc : (by8 s k).toNat = cc at *
        clear hcc
        by_cases g : 48 ≤ cc
        · have g1 : (48 : Int) ≤ (cc : Int) := by omega
          have g2 : ¬ (cc : Int) ≤ 57 := by omega
          have g3 : decide ((cc : Int) ≤ 57) = false := decide_eq_false g2
          clear hn g
          go_wp2_with fail
          go_quiet (fail)
          go_wp2_with fail
          go_quiet (fail)
          go_wp2
          go_ret
          exact ⟨by rw [HE.out]; rfl, by rw [HE.out]; exact (HK.out.below (below_dn (Below.refl _ _) _)).below (below_dn (Below.refl _ _) _), (HW.out.dn _).dn _⟩
        · have g1 : ¬ (48 : Int) ≤ (cc : Int) := by omega
          have g3 : decide ((48 : Int) ≤ (cc : Int)) = false := decide_eq_false g1
          clear hn g
          go_wp2_with fail
          go_quiet (fail)
          go_wp2_with fail
          go_quiet (fail)
          go_wp2
          go_ret
          exact ⟨by rw [HE.out]; rfl, by rw [HE.out]; exact (HK.out.below (below_dn (Below.refl _ _) _)).below (below_dn (Below.refl _ _) _), (HW.out.dn _).dn _⟩
      · have hlt : ¬ (k : Int) < (s.size : Int) := by omega
        have hlt2 : decide ((k : Int) < (s.size : Int)) = false := decide_eq_false hlt
        clear hc
        go_wp2_with fail
        go_quiet (fail)
        go_wp2_with fail
        go_quiet (fail)
        go_wp2
        go_ret
        exact ⟨by rw [HE.out]; rfl, by rw [HE.out]; exact (HK.out.below (below_dn (Below.refl _ _) _)).below (below_dn (Below.refl _ _) _), (HW.out.dn _).dn _⟩
end Go.Proofs.YtibjogbalmbeeaaGreatDoor

namespace Go.Proofs.YtibjogbalmbeeaaGreatDoor
open Go.RowKit

def vast : Nat := 1000000
/-- The number of m decimal digits from i on, vast at most. -/
def ev (s : ByteArray) (i : Nat) : Nat → Nat
  | 0 => 0
  | m + 1 => min (10 * ev s i m + ((by8 s (i + m)).toNat - 48)) vast
theorem ev_le (s : ByteArray) (i m : Nat) : ev s i m ≤ vast := by
  cases m with
  | zero => exact Nat.zero_le _
  | succ m => exact Nat.min_le_right _ _
/-- Is an exponent's letter at j? -/
def isE (s : ByteArray) (j : Nat) : Bool := decide (j < s.size) && (by8 s j == 101 || by8 s j == 69)
theorem isE_iff (s : ByteArray) (j : Nat) : isE s j = true ↔ j < s.size ∧ (by8 s j = 101 ∨ by8 s j = 69) := by
  unfold isE; simp
/-- The exponent that may stand at j: its number, where it ends. -/
def expAt (s : ByteArray) (j : Nat) : Option (Int × Nat) :=
  if isE s j = false then some (0, j) else
  if dcE s (sgI s (j + 1)) = sgI s (j + 1) then none else
  some (if sgB s (j + 1) then -((ev s (sgI s (j + 1)) (dcE s (sgI s (j + 1)) - sgI s (j + 1)) : Nat) : Int) else ((ev s (sgI s (j + 1)) (dcE s (sgI s (j + 1)) - sgI s (j + 1)) : Nat) : Int), dcE s (sgI s (j + 1)))
def ExpPost (b : Nat) (s : ByteArray) (j : Nat) (w : World) (e : Ending) (w' : World) : Prop :=
  (∃ x k, expAt s j = some (x, k) ∧ e = .returned (.int .i64 x) ∧ Box2 w' b (.string s) (.int .i64 ((k : Nat) : Int)) ∧ KB b w w') ∨
  (expAt s j = none ∧ (∃ k : Nat, e = .panicked [dfault k]) ∧ KB b w w')

set_option maxRecDepth 100000 in
set_option maxHeartbeats 1000000 in
theorem exponent_walk (b : Nat) (s : ByteArray) (j : Nat) (w : World) (hB : Box2 w b (.string s) (.int .i64 (j : Int))) (hs : s.size ≤ 4100) :
    Calls Tryz.prog 237 #[.pointer (some ⟨b, 0, none⟩)] w (ExpPost b s j w) := by
  by_cases hE : isE s j = true
  case neg =>
    have hE0 : isE s j = false := by simpa using hE
    have hF := show expAt s j = some (0, j) by unfold expAt; rw [if_pos hE0]
    have hno : ∀ h : j < s.size, by8 s j ≠ 101 ∧ by8 s j ≠ 69 := fun h => ⟨fun e => hE ((isE_iff s j).2 ⟨h, .inl e⟩), fun e => hE ((isE_iff s j).2 ⟨h, .inr e⟩)⟩
    have HF := Lib.hid hF
    have HT := Lib.hid (dtake_no b s j 101 101 w rfl hB (by omega) (fun h => (hno h).1))
    have HNo := Lib.hid hno
    clear hE hE0 hF hno hB
    go_enter Tryz.func237, Tryz.ntmps237
    go_wp2_with fail
    refine HT.out.mono ?_
    rintro e w1 ⟨rfl, hB1, hb1⟩
    have HB1 := Lib.hid hB1
    clear hB1
    go_wp2_with fail
    refine (dtake_no b s j 69 69 w1 rfl HB1.out (by omega) (fun h => (HNo.out h).2)).mono ?_
    rintro e w2 ⟨rfl, hB2, hb2⟩
    have HB2 := Lib.hid hB2
    clear hB2
    go_wp2
    go_ret
    exact .inl ⟨_, _, HF.out, rfl, HB2.out, hb1.trans hb2⟩
  obtain ⟨hjl, hor⟩ := (isE_iff s j).1 hE
  have hE1 : ¬ isE s j = false := by rw [hE]; simp
  have hk1 : sgI s (j + 1) ≤ s.size := sgI_le s (j + 1) hjl
  have HJ := Lib.hid (show j < s.size ∧ sgI s (j + 1) ≤ s.size from ⟨hjl, hk1⟩)
  have htail : ∀ W, Box2 W b (.string s) (.int .i64 ((j + 1 : Nat) : Int)) → Hid (Calls Tryz.prog 218 #[.pointer (some ⟨b, 0, none⟩)] W fun e w' => e = .returned (.bool (sgB s (j + 1))) ∧ Box2 w' b (.string s) (.int .i64 ((sgI s (j + 1) : Nat) : Int)) ∧ KB b W w') := fun W h => Lib.hid (dsign_walk b s (j + 1) W h (by omega))
  have HSg := Lib.hid htail
  have hmain : ∀ W, Box2 W b (.string s) (.int .i64 ((sgI s (j + 1) : Nat) : Int)) → Hid (Calls Tryz.prog 235 #[.pointer (some ⟨b, 0, none⟩)] W fun e w' => e = .returned (.string (s.extract (sgI s (j + 1)) (dcE s (sgI s (j + 1))))) ∧ Box2 w' b (.string s) (.int .i64 ((dcE s (sgI s (j + 1)) : Nat) : Int)) ∧ KB b W w') := fun W h => Lib.hid (ddigits_walk b s (sgI s (j + 1)) W h hk1 (by omega))
  have HDg := Lib.hid hmain
  obtain ⟨k, hk⟩ : ∃ k, sgI s (j + 1) = k := ⟨_, rfl⟩
  obtain ⟨l, hl⟩ : ∃ l, dcE s k = l := ⟨_, rfl⟩
  obtain ⟨ng, hng⟩ : ∃ ng, sgB s (j + 1) = ng := ⟨_, rfl⟩
  have hkl : k ≤ l := by rw [← hl]; exact runTo_ge _ _ _ _
  have hls : l ≤ s.size := by rw [← hl]; exact runTo_le _ _ _ _ (by rw [← hk]; exact hk1)
  have hall : ∀ i, k ≤ i → i < l → isDec (by8 s i) = true := fun i h1 h2 => runTo_all isDec s s.size k i h1 (by rw [show runTo isDec s s.size k = l from hl]; exact h2)
  have hF : expAt s j = if l = k then none else some (if ng then -((ev s k (l - k) : Nat) : Int) else ((ev s k (l - k) : Nat) : Int), l) := by
    unfold expAt; rw [if_neg hE1, hk, hl, hng]
  have hsz : (s.extract k l).size = l - k := size_ext _ _ _ hls
  have hby : ∀ i, i < l - k → by8 (s.extract k l) i = by8 s (k + i) := fun i hi => by8_extract s k l i hls hi
  rw [hk, hl] at HDg
  rw [hk, hng] at HSg
  have HF := Lib.hid hF
  have HL := Lib.hid (show k ≤ l ∧ l ≤ s.size from ⟨hkl, hls⟩)
  have HA := Lib.hid hall
  have HBy := Lib.hid hby
  have HSz := Lib.hid hsz
  obtain ⟨d, hd⟩ : ∃ d, s.extract k l = d := ⟨_, rfl⟩
  rw [hd] at HDg HBy HSz
  have HB := Lib.hid hB
  have HOr := Lib.hid hor
  clear hE hjl hor hE1 hk1 htail hmain hk hl hng hkl hls hall hF hsz hby hd hB
  have hor2 : by8 s j = 101 ∨ (by8 s j ≠ 101 ∧ by8 s j = 69) := by
    by_cases h : by8 s j = 101
    · exact .inl h
    · exact .inr ⟨h, HOr.out.resolve_left h⟩
  rcases hor2 with h1 | ⟨h1, h2⟩
  have HT := Lib.hid (dtake_yes b s j 101 101 w rfl HB.out HJ.out.1 (by omega) h1)
  clear h1 HOr
  go_enter Tryz.func237, Tryz.ntmps237
  go_wp2_with fail
  refine HT.out.mono ?_
  rintro e w1 ⟨rfl, hB1, hb1⟩
  have HSg1 := HSg.out w1 hB1
  have HW1 := Lib.hid hb1
  clear hB1 hb1 HT HB
  go_wp2_with fail
  rotate_left
  have HT := Lib.hid (dtake_no b s j 101 101 w rfl HB.out (by omega) (fun _ => h1))
  have HT2 := Lib.hid h2
  clear h1 h2 HOr
  go_enter Tryz.func237, Tryz.ntmps237
  go_wp2_with fail
  refine HT.out.mono ?_
  rintro e w0 ⟨rfl, hB0, hb0⟩
  have HB0 := Lib.hid hB0
  clear hB0 HT HB
  go_wp2_with fail
  refine (dtake_yes b s j 69 69 w0 rfl HB0.out HJ.out.1 (by omega) HT2.out).mono ?_
  rintro e w1 ⟨rfl, hB1, hb1⟩
  have HSg1 := HSg.out w1 hB1
  have HW1 := Lib.hid (hb0.trans hb1)
  clear hB1 hb1 hb0 HB0 HT2
  go_wp2_with fail
  all_goals
    refine HSg1.out.mono ?_
    rintro e w2 ⟨rfl, hB2, hb2⟩
    have HDg2 := HDg.out w2 hB2
    have HW2 := Lib.hid (HW1.out.trans hb2)
    clear hB2 hb2 HSg1 HW1 HSg HDg
    go_wp2_with fail
    refine HDg2.out.mono ?_
    rintro e w3 ⟨rfl, hB3, hb3⟩
    have HB3 := Lib.hid hB3
    have HW3 := Lib.hid (HW2.out.trans hb3)
    clear hB3 hb3 HDg2 HW2
    by_cases hlk : l = k
    · have hEm : d.toList.isEmpty = true := by rw [empty_iff, HSz.out]; exact decide_eq_true (by omega)
      have HN := Lib.hid (show expAt s j = none by rw [HF.out, if_pos hlk])
      clear hlk
      go_wp2_with fail
      refine (give_walk b s l w3 HB3.out).mono ?_
      rintro e wz ⟨rfl, rfl⟩
      go_wp2
      exact ⟨rfl, .inr ⟨HN.out, ⟨l, rfl⟩, HW3.out⟩⟩
    · have hEm : d.toList.isEmpty = false := by rw [empty_iff, HSz.out]; exact decide_eq_false (by have := HL.out; omega)
      have HS := Lib.hid (show expAt s j = some (if ng then -((ev s k (l - k) : Nat) : Int) else ((ev s k (l - k) : Nat) : Int), l) by rw [HF.out, if_neg hlk])
      obtain ⟨n, hn⟩ : ∃ n, l - k = n := ⟨_, rfl⟩
      have hnb : n ≤ 4100 := by have := HL.out; omega
      have hdn : d.size = n := by rw [HSz.out, hn]
      rw [hn] at HS HBy
      have HN := Lib.hid hn
      clear hlk hn
      go_wp2_with fail
      go_loop [5, 25] (fun x i => ∃ t : Nat, t ≤ n ∧ i = .int .i64 (t : Int) ∧ x = .int .i64 ((ev s k t : Nat) : Int)) (fun _ i => n - (intOf i).toNat)
      case atStart => exact ⟨0, by omega, rfl, rfl⟩
      case round =>
        obtain ⟨t, ht, rfl, rfl⟩ := hrel
        have hle := ev_le s k t
        unfold vast at hle
        by_cases htn : t < n
        · have hti : (t : Int) < (n : Int) := by omega
          have hix := fun w1 => run_byte d t (by omega) (by omega) w1
          rw [HBy.out t htn] at hix
          obtain ⟨c1, c2⟩ := isDec_range _ (HA.out (k + t) (by omega) (by have := HN.out; omega))
          have HSt := Lib.hid (show ev s k (t + 1) = min (10 * ev s k t + ((by8 s (k + t)).toNat - 48)) 1000000 from rfl)
          generalize ev s k t = x0 at *
          generalize (by8 s (k + t)).toNat = cc at *
          go_wp2
          go_round
          case rel => exact ⟨t + 1, by omega, by go_num, by rw [HSt.out]; congr 1; omega⟩
          case measure => simp [intOf]; omega
        · have htn2 : t = n := by omega
          subst htn2
          have hti : ¬ (t : Int) < (t : Int) := by omega
          have hneg : IntKind.i64.wrap (-((ev s k t : Nat) : Int)) = -((ev s k t : Nat) : Int) := by rw [IntKind.wrap_i64]; omega
          generalize ev s k t = x0 at *
          cases ng
          · go_wp2
            go_ret
            exact .inl ⟨_, _, HS.out, rfl, HB3.out, HW3.out⟩
          · go_wp2
            go_ret
            exact .inl ⟨_, _, HS.out, rfl, HB3.out, HW3.out⟩
end Go.Proofs.YtibjogbalmbeeaaGreatDoor

namespace Go.Proofs.YtibjogbalmbeeaaGreatDoor
open Go.RowKit

/-- The digits from i on; is there a point behind them; the digits behind it; where they end. -/
def dW (s : ByteArray) (i : Nat) : ByteArray := s.extract i (dcE s i)
def ptQ (s : ByteArray) (i : Nat) : Bool := decide (dcE s i < s.size) && by8 s (dcE s i) == 46
def dP (s : ByteArray) (i : Nat) : ByteArray := if ptQ s i then s.extract (dcE s i + 1) (dcE s (dcE s i + 1)) else ⟨#[]⟩
def dK (s : ByteArray) (i : Nat) : Nat := if ptQ s i then dcE s (dcE s i + 1) else dcE s i
theorem ptQ_iff (s : ByteArray) (i : Nat) : ptQ s i = true ↔ dcE s i < s.size ∧ by8 s (dcE s i) = 46 := by unfold ptQ; simp
/-- The number that stands from i on to the text's end: its digits without noughts in front, its exponent of ten. -/
def decAt (s : ByteArray) (i : Nat) : Option (List UInt8 × Int) :=
  if (dW s i).size = 0 ∧ (dP s i).size = 0 then none else
  match expAt s (dK s i) with
  | none => none
  | some (x, k) => if k < s.size then none else some (strip0 ((dW s i).data.toList ++ (dP s i).data.toList), x - ((dP s i).size : Int))
def DecPost (b : Nat) (s : ByteArray) (i : Nat) (neg : Bool) (w : World) (e : Ending) (w' : World) : Prop :=
  (∃ D x, decAt s i = some (D, x) ∧ e = .returned (.agg #[.bool neg, .string ⟨D.toArray⟩, .int .i64 x]) ∧ KB b w w') ∨
  (decAt s i = none ∧ (∃ k : Nat, e = .panicked [dfault k]) ∧ KB b w w')
theorem dP_le (s : ByteArray) (i : Nat) (hi : i ≤ s.size) : dcE s i ≤ s.size ∧ dK s i ≤ s.size ∧ (dW s i).size ≤ s.size ∧ (dP s i).size ≤ s.size := by
  have h1 : dcE s i ≤ s.size := runTo_le _ _ _ _ hi
  have h2 : (dW s i).size = dcE s i - i := size_ext _ _ _ h1
  unfold dP dK
  by_cases h : ptQ s i = true
  · rw [if_pos h, if_pos h]
    have h3 : dcE s (dcE s i + 1) ≤ s.size := runTo_le _ _ _ _ ((ptQ_iff s i).1 h).1
    rw [size_ext _ _ _ h3]
    omega
  · rw [if_neg h, if_neg h]
    have h4 : (⟨#[]⟩ : ByteArray).size = 0 := rfl
    rw [h4]
    omega
theorem expAt_bound {s : ByteArray} {j k : Nat} {x : Int} (h : expAt s j = some (x, k)) : -1000000 ≤ x ∧ x ≤ 1000000 := by
  unfold expAt at h
  split at h
  · simp only [Option.some.injEq, Prod.mk.injEq] at h; omega
  · split at h
    · exact absurd h (by simp)
    · simp only [Option.some.injEq, Prod.mk.injEq] at h
      have hl := ev_le s (sgI s (j + 1)) (dcE s (sgI s (j + 1)) - sgI s (j + 1))
      unfold vast at hl
      obtain ⟨h1, _⟩ := h
      split at h1 <;> omega

theorem Box3.kb {W W1 : World} {b g : Nat} {v0 v1 v2 : Value} (h : Box3 W g v0 v1 v2) (hk : KB b W W1) (hne : g ≠ b) : Box3 W1 g v0 v1 v2 := by
  obtain ⟨h0, h1, h2, f0, f1, f2, hl⟩ := h
  have hb := hk.block g hl hne
  exact ⟨hk.cell h0 hne, hk.cell h1 hne, hk.cell h2 hne, (World.frozen?_of_block (a := ⟨g, 0, none⟩) hb).trans f0, (World.frozen?_of_block (a := ⟨g, 1, none⟩) hb).trans f1, (World.frozen?_of_block (a := ⟨g, 2, none⟩) hb).trans f2, Nat.lt_of_lt_of_le hl hk.size⟩
theorem KB.put3 {b g : Nat} {w W : World} {u0 u1 u2 : Value} (h : KB b w W) (hg : w.heap.size ≤ g) : KB b w (put3 W g u0 u1 u2) := ((h.over hg 0 u0).over hg 1 u1).over hg 2 u2

set_option maxRecDepth 100000 in
set_option maxHeartbeats 1000000 in
theorem dnumber_walk (b : Nat) (s : ByteArray) (i : Nat) (neg : Bool) (w : World) (hB : Box2 w b (.string s) (.int .i64 (i : Int))) (hi : i ≤ s.size) (hs : s.size ≤ 4100) :
    Calls Tryz.prog 222 #[.pointer (some ⟨b, 0, none⟩), .bool neg] w (DecPost b s i neg w) := by
  obtain ⟨l1, l2, l3, l4⟩ := dP_le s i hi
  have hbl : b < w.heap.size := hB.2.2.2.2
  have hw0 := below_alloc' w (.cells #[.bool false, .string ⟨#[]⟩, .int .i64 0] 278)
  have hR : Box3 (w.alloc (.cells #[.bool false, .string ⟨#[]⟩, .int .i64 0] 278)) w.heap.size (.bool false) (.string ⟨#[]⟩) (.int .i64 0) := ⟨by simp, by simp, by simp, by simp, by simp, by simp, by simp⟩
  have HR0 := Lib.hid hR
  have HW0 := Lib.hid hw0
  have HB0 := Lib.hid (hB.below hw0)
  have HL := Lib.hid (show dcE s i ≤ s.size ∧ dK s i ≤ s.size ∧ (dW s i).size ≤ s.size ∧ (dP s i).size ≤ s.size from ⟨l1, l2, l3, l4⟩)
  have HBl := Lib.hid hbl
  clear l1 l2 l3 l4 hB hw0 hR hbl
  have HD1 := Lib.hid (ddigits_walk b s i _ HB0.out hi (by omega))
  obtain ⟨d1, hd1⟩ : ∃ d, dW s i = d := ⟨_, rfl⟩
  rw [show s.extract i (dcE s i) = d1 from hd1] at HD1
  have HDw := Lib.hid hd1
  clear hd1 HB0
  go_enter Tryz.func222, Tryz.ntmps222
  go_wp2_with fail
  refine HD1.out.mono ?_
  rintro e w1 ⟨rfl, hB1, hb1⟩
  have HB1 := Lib.hid hB1
  have HW1 := Lib.hid hb1
  clear hB1 hb1 HD1
  go_wp2_with fail
  have HG := Lib.hid (show w.heap.size ≠ b by have := HBl.out; omega)
  have HR1 := Lib.hid (HR0.out.kb HW1.out HG.out)
  have HW1' := Lib.hid ((KB.of HW0.out).trans HW1.out)
  clear HR0 HW0 HW1
  by_cases hpt : ptQ s i = true
  · obtain ⟨q1, q2⟩ := (ptQ_iff s i).1 hpt
    have HP : Hid (dP s i = s.extract (dcE s i + 1) (dcE s (dcE s i + 1)) ∧ dK s i = dcE s (dcE s i + 1)) := Lib.hid (by unfold dP dK; rw [if_pos hpt, if_pos hpt]; exact ⟨rfl, rfl⟩)
    have HQ := Lib.hid (show dcE s i < s.size ∧ by8 s (dcE s i) = 46 from ⟨q1, q2⟩)
    clear hpt q1 q2
    refine (dtake_yes b s _ 46 46 w1 rfl HB1.out HQ.out.1 (by omega) HQ.out.2).mono ?_
    rintro e w2 ⟨rfl, hB2, hb2⟩
    have HB2 := Lib.hid hB2
    have HR2 := Lib.hid (HR1.out.kb hb2 HG.out)
    have HW2 := Lib.hid (HW1'.out.trans hb2)
    clear hB2 hb2 HB1 HR1 HW1'
    go_wp2_with fail
    refine (ddigits_walk b s _ w2 HB2.out HQ.out.1 (by omega)).mono ?_
    rintro e w4 ⟨rfl, hB4, hb4⟩
    rw [← HP.out.2] at hB4
    rw [← HP.out.1]
    obtain ⟨d2, hd2⟩ : ∃ d, dP s i = d := ⟨_, rfl⟩
    rw [hd2]
    have HDp := Lib.hid hd2
    have HB4 := Lib.hid hB4
    have HR4 := Lib.hid (HR2.out.kb hb4 HG.out)
    have HW4 := Lib.hid (HW2.out.trans hb4)
    have HDs := Lib.hid (show (dW s i).size = d1.size ∧ (dP s i).size = d2.size from ⟨by rw [HDw.out], by rw [HDp.out]⟩)
    clear hB4 hb4 HB2 HR2 HW2 hd2
    by_cases e1 : d1.size = 0
    · have hE1 : d1.toList.isEmpty = true := by rw [empty_iff]; exact decide_eq_true e1
      by_cases e2 : d2.size = 0
      · have hE2 : d2.toList.isEmpty = true := by rw [empty_iff]; exact decide_eq_true e2
        have HEm := Lib.hid (show (dW s i).size = 0 ∧ (dP s i).size = 0 by rw [HDs.out.1, HDs.out.2]; exact ⟨e1, e2⟩)
        clear e1 e2
        have HN := Lib.hid (show decAt s i = none by unfold decAt; rw [if_pos HEm.out])
        go_wp2_with fail
        refine (give_walk b s (dK s i) w4 HB4.out).mono ?_
        rintro e wz ⟨rfl, rfl⟩
        go_wp2
        exact ⟨rfl, .inr ⟨HN.out, ⟨_, rfl⟩, HW4.out⟩⟩
      · have hE2 : d2.toList.isEmpty = false := by rw [empty_iff]; exact decide_eq_false e2
        have HNe := Lib.hid (show ¬ ((dW s i).size = 0 ∧ (dP s i).size = 0) by rw [HDs.out.1, HDs.out.2]; exact fun h => e2 h.2)
        clear e1 e2
        go_wp2_with fail
        refine (exponent_walk b s (dK s i) w4 HB4.out hs).mono ?_
        rintro e w5 hx
        rcases hx with ⟨x, k, hex, rfl, hB5, hb5⟩ | ⟨hex, ⟨k, rfl⟩, hb5⟩
        · have HB5 := Lib.hid hB5
          have HW5 := Lib.hid (HW4.out.trans hb5)
          have HR5 := Lib.hid (HR4.out.kb hb5 HG.out)
          have hxb := expAt_bound hex
          by_cases hk : k < s.size
          · have HN := Lib.hid (show decAt s i = none by unfold decAt; rw [if_neg HNe.out, hex]; simp [hk])
            have hki : (k : Int) < (s.size : Int) := by omega
            obtain ⟨b0, b1, b2, b3, b4⟩ := hB5
            clear hex hb5 HB4 HW4 HR4
            go_wp2_with fail
            go_quiet (fail)
            go_wp2_with fail
            refine (give_walk b s k _ (HB5.out.below (below_dn (Below.refl _ _) _))).mono ?_
            rintro e wz ⟨rfl, rfl⟩
            go_wp2
            exact ⟨rfl, .inr ⟨HN.out, ⟨k, rfl⟩, HW5.out.dn _⟩⟩
          · have hki : ¬ (k : Int) < (s.size : Int) := by omega
            have HN := Lib.hid (show decAt s i = some (strip0 (d1.data.toList ++ d2.data.toList), x - (d2.size : Int)) by unfold decAt; rw [if_neg HNe.out, hex]; simp only [hk, if_false]; rw [HDw.out, HDp.out])
            obtain ⟨b0, b1, b2, b3, b4⟩ := hB5
            have hz1 : d1.size ≤ 4100 := by have := HL.out; have := HDs.out; omega
            have hz2 : d2.size ≤ 4100 := by have := HL.out; have := HDs.out; omega
            have hsub : IntKind.i64.wrap (x - (d2.size : Int)) = x - (d2.size : Int) := by rw [IntKind.wrap_i64]; omega
            clear hex hb5 HB4 HW4 HR4 hk
            go_wp2_with fail
            go_quiet (fail)
            go_wp2_with fail
            refine (Tryz.strings_TrimLeft_one _ 48 (by decide) _).mono ?_
            rintro e w6 ⟨rfl, hw6⟩
            have hw6' := hw6.symm
            subst hw6'
            have HRq := Lib.hid (HR5.out.below (below_dn (Below.refl _ _) nq))
            have HWq := Lib.hid (HW5.out.dn nq)
            obtain ⟨r0, r1, r2, r3, r4, r5, r6⟩ := HRq.out
            obtain ⟨D, hD⟩ : ∃ D, Lib.trimLeftB (d1 ++ d2).data.toList 48 = D := ⟨_, rfl⟩
            have hDe : strip0 (d1.data.toList ++ d2.data.toList) = D := by rw [← hD]; unfold strip0 Lib.trimLeftB; simp
            rw [hDe] at HN
            try rw [hD]
            clear hD hDe hw6
            go_wp2
            have hp := HRq.out.put (u0 := .bool neg) (u1 := .string ⟨D.toArray⟩) (u2 := .int .i64 (x - (d2.size : Int)))
            have hb := HWq.out.put3 (u0 := .bool neg) (u1 := .string ⟨D.toArray⟩) (u2 := .int .i64 (x - (d2.size : Int))) (g := w.heap.size) (Nat.le_refl _)
            unfold put3 at hp hb
            obtain ⟨e0, e1, e2, _⟩ := hp
            exact bodyPost_ret (v := .agg #[.bool neg, .string ⟨D.toArray⟩, .int .i64 (x - (d2.size : Int))]) (by simp [results, Tryz.results222, go_sem, e0, e1, e2]) rfl (.inl ⟨D, _, HN.out, rfl, hb⟩)
        · have HN := Lib.hid (show decAt s i = none by unfold decAt; rw [if_neg HNe.out, hex])
          have HW5 := Lib.hid (HW4.out.trans hb5)
          clear hex hb5 HB4 HW4 HR4
          go_wp2
          exact ⟨rfl, .inr ⟨HN.out, ⟨k, rfl⟩, HW5.out⟩⟩
    · have hE1 : d1.toList.isEmpty = false := by rw [empty_iff]; exact decide_eq_false e1
      have HNe := Lib.hid (show ¬ ((dW s i).size = 0 ∧ (dP s i).size = 0) by rw [HDs.out.1, HDs.out.2]; exact fun h => e1 h.1)
      clear e1
      go_wp2_with fail
      refine (exponent_walk b s (dK s i) w4 HB4.out hs).mono ?_
      rintro e w5 hx
      rcases hx with ⟨x, k, hex, rfl, hB5, hb5⟩ | ⟨hex, ⟨k, rfl⟩, hb5⟩
      · have HB5 := Lib.hid hB5
        have HW5 := Lib.hid (HW4.out.trans hb5)
        have HR5 := Lib.hid (HR4.out.kb hb5 HG.out)
        have hxb := expAt_bound hex
        by_cases hk : k < s.size
        · have HN := Lib.hid (show decAt s i = none by unfold decAt; rw [if_neg HNe.out, hex]; simp [hk])
          have hki : (k : Int) < (s.size : Int) := by omega
          obtain ⟨b0, b1, b2, b3, b4⟩ := hB5
          clear hex hb5 HB4 HW4 HR4
          go_wp2_with fail
          go_quiet (fail)
          go_wp2_with fail
          refine (give_walk b s k _ (HB5.out.below (below_dn (Below.refl _ _) _))).mono ?_
          rintro e wz ⟨rfl, rfl⟩
          go_wp2
          exact ⟨rfl, .inr ⟨HN.out, ⟨k, rfl⟩, HW5.out.dn _⟩⟩
        · have hki : ¬ (k : Int) < (s.size : Int) := by omega
          have HN := Lib.hid (show decAt s i = some (strip0 (d1.data.toList ++ d2.data.toList), x - (d2.size : Int)) by unfold decAt; rw [if_neg HNe.out, hex]; simp only [hk, if_false]; rw [HDw.out, HDp.out])
          obtain ⟨b0, b1, b2, b3, b4⟩ := hB5
          have hz1 : d1.size ≤ 4100 := by have := HL.out; have := HDs.out; omega
          have hz2 : d2.size ≤ 4100 := by have := HL.out; have := HDs.out; omega
          have hsub : IntKind.i64.wrap (x - (d2.size : Int)) = x - (d2.size : Int) := by rw [IntKind.wrap_i64]; omega
          clear hex hb5 HB4 HW4 HR4 hk
          go_wp2_with fail
          go_quiet (fail)
          go_wp2_with fail
          refine (Tryz.strings_TrimLeft_one _ 48 (by decide) _).mono ?_
          rintro e w6 ⟨rfl, hw6⟩
          have hw6' := hw6.symm
          subst hw6'
          have HRq := Lib.hid (HR5.out.below (below_dn (Below.refl _ _) nq))
          have HWq := Lib.hid (HW5.out.dn nq)
          obtain ⟨r0, r1, r2, r3, r4, r5, r6⟩ := HRq.out
          obtain ⟨D, hD⟩ : ∃ D, Lib.trimLeftB (d1 ++ d2).data.toList 48 = D := ⟨_, rfl⟩
          have hDe : strip0 (d1.data.toList ++ d2.data.toList) = D := by rw [← hD]; unfold strip0 Lib.trimLeftB; simp
          rw [hDe] at HN
          try rw [hD]
          clear hD hDe hw6
          go_wp2
          have hp := HRq.out.put (u0 := .bool neg) (u1 := .string ⟨D.toArray⟩) (u2 := .int .i64 (x - (d2.size : Int)))
          have hb := HWq.out.put3 (u0 := .bool neg) (u1 := .string ⟨D.toArray⟩) (u2 := .int .i64 (x - (d2.size : Int))) (g := w.heap.size) (Nat.le_refl _)
          unfold put3 at hp hb
          obtain ⟨e0, e1, e2, _⟩ := hp
          exact bodyPost_ret (v := .agg #[.bool neg, .string ⟨D.toArray⟩, .int .i64 (x - (d2.size : Int))]) (by simp [results, Tryz.results222, go_sem, e0, e1, e2]) rfl (.inl ⟨D, _, HN.out, rfl, hb⟩)
      · have HN := Lib.hid (show decAt s i = none by unfold decAt; rw [if_neg HNe.out, hex])
        have HW5 := Lib.hid (HW4.out.trans hb5)
        clear hex hb5 HB4 HW4 HR4
        go_wp2
        exact ⟨rfl, .inr ⟨HN.out, ⟨k, rfl⟩, HW5.out⟩⟩
  · have HP : Hid (dP s i = ⟨#[]⟩ ∧ dK s i = dcE s i) := Lib.hid (by unfold dP dK; rw [if_neg hpt, if_neg hpt]; exact ⟨rfl, rfl⟩)
    have HQ := Lib.hid (show dcE s i < s.size → by8 s (dcE s i) ≠ 46 from fun h e => hpt ((ptQ_iff s i).2 ⟨h, e⟩))
    clear hpt
    refine (dtake_no b s _ 46 46 w1 rfl HB1.out (by omega) HQ.out).mono ?_
    rintro e w4 ⟨rfl, hB4, hb4⟩
    rw [← HP.out.2] at hB4
    have HDp := Lib.hid HP.out.1
    have HB4 := Lib.hid hB4
    have HR4 := Lib.hid (HR1.out.kb hb4 HG.out)
    have HW4 := Lib.hid (HW1'.out.trans hb4)
    have HDs := Lib.hid (show (dW s i).size = d1.size ∧ (dP s i).size = (⟨#[]⟩ : ByteArray).size from ⟨by rw [HDw.out], by rw [HDp.out]⟩)
    clear hB4 hb4 HB1 HR1 HW1'
    by_cases e1 : d1.size = 0
    · have hE1 : d1.toList.isEmpty = true := by rw [empty_iff]; exact decide_eq_true e1
      have HEm := Lib.hid (show (dW s i).size = 0 ∧ (dP s i).size = 0 by rw [HDs.out.1, HDs.out.2]; exact ⟨e1, rfl⟩)
      clear e1
      have HN := Lib.hid (show decAt s i = none by unfold decAt; rw [if_pos HEm.out])
      go_wp2_with fail
      refine (give_walk b s (dK s i) w4 HB4.out).mono ?_
      rintro e wz ⟨rfl, rfl⟩
      go_wp2
      exact ⟨rfl, .inr ⟨HN.out, ⟨_, rfl⟩, HW4.out⟩⟩
    · have hE1 : d1.toList.isEmpty = false := by rw [empty_iff]; exact decide_eq_false e1
      have HNe := Lib.hid (show ¬ ((dW s i).size = 0 ∧ (dP s i).size = 0) by rw [HDs.out.1, HDs.out.2]; exact fun h => e1 h.1)
      clear e1
      go_wp2_with fail
      refine (exponent_walk b s (dK s i) w4 HB4.out hs).mono ?_
      rintro e w5 hx
      rcases hx with ⟨x, k, hex, rfl, hB5, hb5⟩ | ⟨hex, ⟨k, rfl⟩, hb5⟩
      · have HB5 := Lib.hid hB5
        have HW5 := Lib.hid (HW4.out.trans hb5)
        have HR5 := Lib.hid (HR4.out.kb hb5 HG.out)
        have hxb := expAt_bound hex
        by_cases hk : k < s.size
        · have HN := Lib.hid (show decAt s i = none by unfold decAt; rw [if_neg HNe.out, hex]; simp [hk])
          have hki : (k : Int) < (s.size : Int) := by omega
          obtain ⟨b0, b1, b2, b3, b4⟩ := hB5
          clear hex hb5 HB4 HW4 HR4
          go_wp2_with fail
          go_quiet (fail)
          go_wp2_with fail
          refine (give_walk b s k _ (HB5.out.below (below_dn (Below.refl _ _) _))).mono ?_
          rintro e wz ⟨rfl, rfl⟩
          go_wp2
          exact ⟨rfl, .inr ⟨HN.out, ⟨k, rfl⟩, HW5.out.dn _⟩⟩
        · have hki : ¬ (k : Int) < (s.size : Int) := by omega
          have HN := Lib.hid (show decAt s i = some (strip0 (d1.data.toList ++ (⟨#[]⟩ : ByteArray).data.toList), x) by unfold decAt; rw [if_neg HNe.out, hex]; simp only [hk, if_false]; rw [HDw.out, HDp.out, show (((⟨#[]⟩ : ByteArray).size : Nat) : Int) = 0 from rfl, Int.sub_zero])
          obtain ⟨b0, b1, b2, b3, b4⟩ := hB5
          have hz1 : d1.size ≤ 4100 := by have := HL.out; have := HDs.out; omega
          have hz2 : (⟨#[]⟩ : ByteArray).size ≤ 4100 := by have := HL.out; have := HDs.out; omega
          have hsub : IntKind.i64.wrap (x - ((⟨#[]⟩ : ByteArray).size : Int)) = x - ((⟨#[]⟩ : ByteArray).size : Int) := by rw [IntKind.wrap_i64]; omega
          clear hex hb5 HB4 HW4 HR4 hk
          go_wp2_with fail
          go_quiet (fail)
          go_wp2_with fail
          refine (Tryz.strings_TrimLeft_one _ 48 (by decide) _).mono ?_
          rintro e w6 ⟨rfl, hw6⟩
          have hw6' := hw6.symm
          subst hw6'
          have HRq := Lib.hid (HR5.out.below (below_dn (Below.refl _ _) nq))
          have HWq := Lib.hid (HW5.out.dn nq)
          obtain ⟨r0, r1, r2, r3, r4, r5, r6⟩ := HRq.out
          obtain ⟨D, hD⟩ : ∃ D, Lib.trimLeftB (d1 ++ (⟨#[]⟩ : ByteArray)).data.toList 48 = D := ⟨_, rfl⟩
          have hDe : strip0 (d1.data.toList ++ (⟨#[]⟩ : ByteArray).data.toList) = D := by rw [← hD]; unfold strip0 Lib.trimLeftB; simp
          rw [hDe] at HN
          try rw [hD]
          clear hD hDe hw6
          go_wp2
          have hp := HRq.out.put (u0 := .bool neg) (u1 := .string ⟨D.toArray⟩) (u2 := .int .i64 x)
          have hb := HWq.out.put3 (u0 := .bool neg) (u1 := .string ⟨D.toArray⟩) (u2 := .int .i64 x) (g := w.heap.size) (Nat.le_refl _)
          unfold put3 at hp hb
          obtain ⟨e0, e1, e2, _⟩ := hp
          exact bodyPost_ret (v := .agg #[.bool neg, .string ⟨D.toArray⟩, .int .i64 x]) (by simp [results, Tryz.results222, go_sem, e0, e1, e2]) rfl (.inl ⟨D, _, HN.out, rfl, hb⟩)
      · have HN := Lib.hid (show decAt s i = none by unfold decAt; rw [if_neg HNe.out, hex])
        have HW5 := Lib.hid (HW4.out.trans hb5)
        clear hex hb5 HB4 HW4 HR4
        go_wp2
        exact ⟨rfl, .inr ⟨HN.out, ⟨k, rfl⟩, HW5.out⟩⟩
end Go.Proofs.YtibjogbalmbeeaaGreatDoor

namespace Go.Proofs.YtibjogbalmbeeaaGreatDoor
open Go.RowKit

/-- The format's number. -/
def fmt (f : Fm) : Int := if f.S = 31 then 32 else 64
theorem fmt_S : fmt fmS = 32 := rfl
theorem fmt_D : fmt fmD = 64 := rfl

set_option maxRecDepth 100000 in
theorem dinf_walk (f : Fm) (hf : f.ok) (w : World) : Calls Tryz.prog 220 #[.int .i64 (fmt f)] w fun e w' => e = .returned (.int .u64 ((f.inf : Nat) : Int)) ∧ w' = w := by
  rcases hf with h | h <;> subst h
  · rw [fmt_S]
    go_enter Tryz.func220, Tryz.ntmps220
    go_wp2
    go_ret
    exact ⟨rfl, rfl⟩
  · rw [fmt_D]
    go_enter Tryz.func220, Tryz.ntmps220
    go_wp2
    go_ret
    exact ⟨rfl, rfl⟩

set_option maxRecDepth 100000 in
theorem dsigned_walk (f : Fm) (hf : f.ok) (neg : Bool) (x : Nat) (hx : x < 2 ^ f.S) (w : World) :
    Calls Tryz.prog 219 #[.int .i64 (fmt f), .bool neg, .int .u64 (x : Int)] w fun e w' => e = .returned (.int .u64 ((sgn f neg x : Nat) : Int)) ∧ w' = w := by
  have ho := or_high f.S x (by rcases hf with h | h <;> subst h <;> simp [fmS, fmD]) hx
  rcases hf with h | h <;> subst h
  · have ho2 : bits BinOp.or IntKind.u64 (x : Int) 2147483648 = ((2 ^ 31 + x : Nat) : Int) := ho
    have HO := Lib.hid ho2
    clear ho ho2 hx
    rw [fmt_S]
    cases neg
    all_goals
      go_enter Tryz.func219, Tryz.ntmps219
      go_wp2
      go_ret
      exact ⟨by first | rfl | exact ret_int (HO.out.trans (by rw [Int.natCast_add]; rfl)), rfl⟩
  · have ho2 : bits BinOp.or IntKind.u64 (x : Int) 9223372036854775808 = ((2 ^ 63 + x : Nat) : Int) := ho
    have HO := Lib.hid ho2
    clear ho ho2 hx
    rw [fmt_D]
    cases neg
    all_goals
      go_enter Tryz.func219, Tryz.ntmps219
      go_wp2
      go_ret
      exact ⟨by first | rfl | exact ret_int (HO.out.trans (by rw [Int.natCast_add]; rfl)), rfl⟩

theorem blen_ten : blen 10 = 4 := by decide
theorem blen_pow_ten (n : Nat) : blen (10 ^ n) ≤ 4 * n + 1 := by
  refine blen_le.2 ?_
  have h1 : 10 ^ n ≤ (2 ^ 4) ^ n := Nat.pow_le_pow_left (by omega) n
  rw [← Nat.pow_mul] at h1
  rw [Nat.pow_succ]
  have := Nat.two_pow_pos (4 * n)
  omega
set_option maxRecDepth 100000 in
theorem ten_walk (n : Nat) (hn : n ≤ 100000) (w : World) : Calls Tryz.prog 77 #[.int .i64 (n : Int)] w fun e w' => ∃ v, e = .returned v ∧ NatAt w' v (10 ^ n) ∧ Below w.heap.size w w' := by
  go_enter Tryz.func77, Tryz.ntmps77
  go_wp2_with fail
  refine (word_walk 10 w (by rw [W64_num]; omega)).mono ?_
  rintro e w1 ⟨v1, rfl, hn1, hb1⟩
  have HN1 := Lib.hid hn1
  obtain ⟨A1, c1, rfl, hc1, hr1⟩ := hn1
  obtain ⟨n1, hn1⟩ : ∃ n, (toL 10).length = n := ⟨_, rfl⟩
  have hl : (toL 10).length ≤ 8192 := by rw [toL_length, blen_ten]; omega
  rw [hn1] at HN1 ⊢
  clear hc1 hr1 hn1
  go_wp2_with fail
  refine (pow_walk _ 10 n w1 HN1.out (by rw [blen_ten]; omega) (by rw [blen_ten]; omega) hl).mono ?_
  rintro e w2 ⟨v2, g2, rfl, ho2, hg2, hb2⟩
  have HN2 := Lib.hid ho2.nat
  obtain ⟨rest, rfl, _⟩ := ho2
  go_wp2
  go_ret
  exact ⟨_, rfl, HN2.out, below_chain hb1 hb2⟩

theorem pat_nought (f : Fm) {D : Nat} (hD : 0 < D) : IsPat f 0 D 0 := by
  intro s
  have h := md_pos f s
  have h2 : 1 ≤ md f s * D := Nat.mul_pos h hD
  constructor
  · intro h; omega
  · rintro ⟨_, h3 | ⟨h3, _⟩⟩
    · rw [Nat.zero_mul] at h3; omega
    · rw [Nat.zero_mul] at h3; omega
theorem nearest_any (f : Fm) (hf : f.ok) (s : Value) (a u : Nat) (w : World) (h : NatAt w s a) (ht : Tab64 w) (hb : blen a ≤ 500000) (hu : u ≤ 1048576) (hodd : a % 2 = 1) :
    Calls Tryz.prog 189 #[.int .i64 (fmt f), .agg #[.bool false, s, .int .i64 (u : Int)]] w fun e w' => ∃ p : Nat, e = .returned (.tuple #[.int .u64 (p : Int), .int .i64 0]) ∧ IsPat f (a * 2 ^ u) 1 p ∧ p ≤ f.inf ∧ Below w.heap.size w w' := by
  have hz : a ≠ 0 := by intro e; rw [e] at hodd; omega
  have hp := hx_isPat hf a u
  rw [← near_char hf] at hp
  have hle : near f false a (u : Int) ≤ f.inf := by unfold near; rw [if_neg hz]; exact rsize_le _ _ _
  rcases hf with h1 | h1 <;> subst h1
  · exact (nearest_walk_S false s a (u : Int) w h ht hb (by simp) (by omega) (by omega) (fun _ => hodd) (fun e => absurd e hz)).mono fun e w' ⟨e1, e2⟩ => ⟨_, e1, hp, hle, e2⟩
  · exact (nearest_walk_D false s a (u : Int) w h ht hb (by simp) (by omega) (by omega) (fun _ => hodd) (fun e => absurd e hz)).mono fun e w' ⟨e1, e2⟩ => ⟨_, e1, hp, hle, e2⟩
theorem quotient_any (f : Fm) (hf : f.ok) (s t : Value) (a b xa xb : Nat) (w : World) (h : NatAt w s a) (g : NatAt w t b) (ht : Tab64 w) (ha : a % 2 = 1) (hb : b % 2 = 1) (hsa : blen a ≤ 100000) (hsb : blen b ≤ 100000) (hxa : xa ≤ 500000) (hxb : xb ≤ 500000) :
    Calls Tryz.prog 185 #[.int .i64 (fmt f), .agg #[.bool false, s, .int .i64 (xa : Int)], .agg #[.bool false, t, .int .i64 (xb : Int)]] w fun e w' => ∃ p : Nat, e = .returned (.tuple #[.int .u64 (p : Int), .int .i64 0]) ∧ IsPat f (a * 2 ^ xa) (b * 2 ^ xb) p ∧ p ≤ f.inf ∧ Below w.heap.size w w' := by
  rcases hf with h1 | h1 <;> subst h1
  · exact quotient_walk_S s t a b xa xb w h g ht ha hb hsa hsb hxa hxb
  · exact quotient_walk_D s t a b xa xb w h g ht ha hb hsa hsb hxa hxb
/-- Make of a natural with the exponent 0. -/
theorem make_whole (s : Value) (a : Nat) (w : World) (h : NatAt w s a) (ht : Tab64 w) (hs : blen a ≤ 500000) (ha : a ≠ 0) :
    Calls Tryz.prog 125 #[.agg #[.bool false, s], .int .i64 0] w fun e w' => ∃ (s' : Value) (o u : Nat), e = .returned (.tuple #[.agg #[.bool false, s', .int .i64 (u : Int)], .int .i64 0]) ∧ NatAt w' s' o ∧ o % 2 = 1 ∧ o * 2 ^ u = a ∧ blen o ≤ blen a ∧ u < blen a ∧ Below w.heap.size w w' := by
  have htz := tz_le ha
  obtain ⟨o1, o2⟩ := odd_split ha
  refine (make_walk false s a 0 w h ht (by omega) (by simp) (by omega) (by omega) (fun _ => by omega) (fun _ => by omega)).mono ?_
  rintro e w' ⟨s', rfl, hn, hb⟩
  refine ⟨s', _, tz a, ?_, hn, o1, o2, blen_mono (Nat.div_le_self _ _), htz, hb⟩
  unfold dexp
  rw [if_neg ha, Int.zero_add]
/-- The number's digits: stripped, the first is a real one. -/
def Dgs (D : List UInt8) : Prop := D.all dgQ = true ∧ ∀ c t, D = c :: t → c ≠ 48
theorem Dgs.ge {D : List UInt8} (h : Dgs D) (hn : D ≠ []) : 10 ^ (D.length - 1) ≤ dcV D := by
  cases D with
  | nil => exact absurd rfl hn
  | cons c t =>
    have := h.1
    simp only [List.all_cons, Bool.and_eq_true] at this
    exact dcV_ge this.1 (h.2 c t rfl)

set_option maxRecDepth 100000 in
set_option maxHeartbeats 1000000 in
theorem dnearest_walk (f : Fm) (hf : f.ok) (neg : Bool) (D : List UInt8) (x : Int) (w : World) (ht : Tab64 w) (hD : Dgs D) (hl : D.length ≤ 4100) (hx1 : -1010000 ≤ x) (hx2 : x ≤ 1010000) :
    Calls Tryz.prog 221 #[.int .i64 (fmt f), .agg #[.bool neg, .string ⟨D.toArray⟩, .int .i64 x]] w fun e w' => ∃ p : Nat, e = .returned (.int .u64 ((sgn f neg p : Nat) : Int)) ∧ IsPat f (tn (dcV D) x) (td x) p ∧ p ≤ f.inf ∧ Below w.heap.size w w' := by
  have hsz : (⟨D.toArray⟩ : ByteArray).size = D.length := by simp [ByteArray.size]
  have hS : ∀ (p : Nat), p ≤ f.inf → Hid (∀ W, Calls Tryz.prog 219 #[.int .i64 (fmt f), .bool neg, .int .u64 (p : Int)] W fun e w' => e = .returned (.int .u64 ((sgn f neg p : Nat) : Int)) ∧ w' = W) := fun p hp => Lib.hid fun W => dsigned_walk f hf neg p (Nat.lt_of_le_of_lt hp (inf_lt f hf)) W
  have HS := Lib.hid hS
  have HI := Lib.hid (fun W => dinf_walk f hf W)
  have hw0 := below_alloc' w (.cells #[.bool neg, .string ⟨D.toArray⟩, .int .i64 x] 278)
  have hB0 : Box3 (w.alloc (.cells #[.bool neg, .string ⟨D.toArray⟩, .int .i64 x] 278)) w.heap.size (.bool neg) (.string ⟨D.toArray⟩) (.int .i64 x) := ⟨by simp, by simp, by simp, by simp, by simp, by simp, by simp⟩
  have HB0 := Lib.hid hB0
  have HW0 := Lib.hid hw0
  have HT := Lib.hid ht
  have HNe := Lib.hid (fun W s a u h ht hb hu ho => nearest_any f hf s a u W h ht hb hu ho)
  have HQu := Lib.hid (fun W s t a b xa xb h g ht ha hb hsa hsb hxa hxb => quotient_any f hf s t a b xa xb W h g ht ha hb hsa hsb hxa hxb)
  obtain ⟨n, hn⟩ : ∃ n, D.length = n := ⟨_, rfl⟩
  have hlt := dcV_lt hD.1
  rw [hn] at hlt
  obtain ⟨S, hSS⟩ : ∃ S : ByteArray, (⟨D.toArray⟩ : ByteArray) = S := ⟨_, rfl⟩
  have hem : S.toList.isEmpty = decide (n = 0) := by rw [empty_iff, ← hSS, hsz, hn]
  have hSn : S.size = n := by rw [← hSS, hsz, hn]
  have hSd : S.data.toList = D := by rw [← hSS]
  rw [hSS] at HB0 HW0 ⊢
  have p1 : IntKind.i64.wrap ((n : Int) + x) = (n : Int) + x := by rw [IntKind.wrap_i64]; omega
  have HDm := Lib.hid (show dcV D < 10 ^ n from hlt)
  obtain ⟨FF, hFF⟩ : ∃ FF, fmt f = FF := ⟨_, rfl⟩
  rw [hFF] at HS HI HNe HQu ⊢
  have HTd := Lib.hid (td_pos x)
  by_cases hn0 : n = 0
  · have hE : S.toList.isEmpty = true := by rw [hem]; exact decide_eq_true hn0
    have HP := Lib.hid (show IsPat f (tn (dcV D) x) (td x) 0 by
      have hD0 : D = [] := List.eq_nil_of_length_eq_zero (by omega)
      rw [hD0, dcV_nil]; unfold tn; rw [Nat.zero_mul]; exact pat_nought f HTd.out)
    have HS0 := HS.out 0 (Nat.zero_le _)
    obtain ⟨b0, b1, b2, _⟩ := HB0.out
    clear hn0 hem hsz hS hn hlt hSS hB0 hw0 ht hD
    go_enter Tryz.func221, Tryz.ntmps221
    go_wp2_with fail
    refine (HS0.out _).mono ?_
    rintro e w1 ⟨rfl, rfl⟩
    go_wp2
    go_ret
    exact ⟨0, rfl, HP.out, Nat.zero_le _, HW0.out⟩
  · have hE : S.toList.isEmpty = false := by rw [hem]; exact decide_eq_false hn0
    by_cases hlow : (n : Int) + x < -400
    · have HP := Lib.hid (dec_low hf (x := x) HDm.out hlow)
      have HS0 := HS.out 0 (Nat.zero_le _)
      obtain ⟨b0, b1, b2, _⟩ := HB0.out
      clear hn0 hem hsz hS hn hlt hSS hB0 hw0 ht hD
      go_enter Tryz.func221, Tryz.ntmps221
      go_wp2_with fail
      refine (HS0.out _).mono ?_
      rintro e w1 ⟨rfl, rfl⟩
      go_wp2
      go_ret
      exact ⟨0, rfl, HP.out, Nat.zero_le _, HW0.out⟩
    · have hlow2 : decide ((n : Int) + x < -400) = false := decide_eq_false hlow
      have hge := hD.ge (fun e => hn0 (by rw [← hn, e]; rfl))
      rw [hn] at hge
      by_cases hhi : 400 < (n : Int) + x
      · have HP := Lib.hid (dec_high hf (x := x) (by omega) hge hhi)
        have HSi := HS.out f.inf (Nat.le_refl _)
        obtain ⟨b0, b1, b2, _⟩ := HB0.out
        obtain ⟨fi, hfi⟩ : ∃ fi, f.inf = fi := ⟨_, rfl⟩
        rw [hfi] at HP HSi HI
        have HFi := Lib.hid hfi
        clear hn0 hem hsz hS hn hlt hSS hB0 hw0 ht hD hge hfi
        go_enter Tryz.func221, Tryz.ntmps221
        go_wp2_with fail
        go_quiet ((first | (go_at_call 220; exact Calls.quiet_of_same (HI.out _)) | (go_at_call 219; exact Calls.quiet_of_same (HSi.out _))))
        go_wp2
        go_ret
        exact ⟨fi, rfl, HP.out, by rw [HFi.out]; exact Nat.le_refl _, below_dn HW0.out _⟩
      · have hhi2 : decide (400 < (n : Int) + x) = false := decide_eq_false hhi
        obtain ⟨m, hm⟩ : ∃ m, dcV D = m := ⟨_, rfl⟩
        have hRead := Lib.hid (fun W => nread_walk S W (by rw [hSn]; exact hn0) (by omega) (by rw [hSd]; exact hD.1))
        rw [hSd, hm] at hRead
        rw [hm] at hge HDm ⊢
        have hm0 : m ≠ 0 := by have := Nat.pow_pos (n := n - 1) (show 0 < 10 by omega); omega
        have hsm : (toL m).length ≤ 400 := short_of_digits HDm.out (by omega)
        have hbm : blen m ≤ 25600 := by rw [toL_length] at hsm; omega
        obtain ⟨b0, b1, b2, _⟩ := HB0.out
        by_cases hx0 : 0 ≤ x
        · obtain ⟨k, rfl⟩ := Int.eq_ofNat_of_zero_le hx0
          have hk : k ≤ 400 := by omega
          have hmk : m * 10 ^ k < 10 ^ (n + k) := by rw [Nat.pow_add]; exact Nat.mul_lt_mul_of_pos_right HDm.out (Nat.pow_pos (by omega))
          have hsp : (toL (m * 10 ^ k)).length ≤ 400 := short_of_digits hmk (by omega)
          have hbp : blen (m * 10 ^ k) ≤ 25600 := by rw [toL_length] at hsp; omega
          have hm0p : m * 10 ^ k ≠ 0 := Nat.mul_ne_zero hm0 (by have := Nat.pow_pos (n := k) (show 0 < 10 by omega); omega)
          have hst : (toL (10 ^ k)).length ≤ 400 := by
            have := blen_pow_ten k
            rw [toL_length]; omega
          have HE := Lib.hid (show tn m (k : Int) = m * 10 ^ k ∧ td (k : Int) = 1 by
            unfold tn td
            rw [Int.toNat_natCast, show (-(k : Int)).toNat = 0 by omega]
            exact ⟨rfl, rfl⟩)
          have HM := Lib.hid (show (toL m).length ≤ 8192 ∧ (toL (10 ^ k)).length ≤ 8192 ∧ (toL (m * 10 ^ k)).length ≤ 8192 ∧ blen (m * 10 ^ k) ≤ 25600 ∧ m * 10 ^ k ≠ 0 from ⟨by omega, by omega, by omega, hbp, hm0p⟩)
          have hki : (0 : Int) ≤ (k : Int) := by omega
          have hkl : k ≤ 100000 := by omega
          clear hn0 hem hsz hS hn hlt hSS hB0 hw0 ht hD hge hlow hhi hm hm0 hsm hbm hmk hsp hbp hm0p hst hx0 hSd HI HQu hl
          go_enter Tryz.func221, Tryz.ntmps221
          go_wp2_with fail
          obtain ⟨w1, hw1⟩ : ∃ w1, w.alloc (.cells #[.bool neg, .string S, .int .i64 (k : Int)] 278) = w1 := ⟨_, rfl⟩
          rw [hw1] at HB0 HW0 ⊢
          clear hw1 b0 b1 b2
          refine (hRead.out w1).mono ?_
          rintro e w2 ⟨v2, rfl, hn2, hb2⟩
          have HN2 := Lib.hid hn2
          have HB2 := Lib.hid (HB0.out.below hb2)
          have HW2 := Lib.hid (below_chain HW0.out hb2)
          obtain ⟨b0, b1, b2, _⟩ := HB2.out
          clear hn2 hb2 HB0 hRead
          go_wp2_with fail
          refine (ten_walk k hkl w2).mono ?_
          rintro e w3 ⟨v3, rfl, hn3, hb3⟩
          have HN3 := Lib.hid hn3
          have HN23 := Lib.hid (HN2.out.below hb3)
          have HB3 := Lib.hid (HB2.out.below hb3)
          have HW3 := Lib.hid (below_chain HW2.out hb3)
          clear hn3 hb3 HB2 HW2 HN2 b0 b1 b2
          go_wp2_with fail
          refine (mul_walk _ _ m (10 ^ k) w3 HN23.out HN3.out HM.out.1 HM.out.2.1 HM.out.2.2.1).mono ?_
          rintro e w4 ⟨v4, g4, rfl, ho4, _, hb4⟩
          have HN4 := Lib.hid ho4.nat
          have HB4 := Lib.hid (HB3.out.below hb4)
          have HW4 := Lib.hid (below_chain HW3.out hb4)
          obtain ⟨rest, rfl, _⟩ := ho4
          clear hb4 HB3 HW3 HN3 HN23
          obtain ⟨a, ha⟩ : ∃ a, m * 10 ^ k = a := ⟨_, rfl⟩
          rw [ha] at HE HM HN4 ⊢
          obtain ⟨n4, hn4⟩ : ∃ n, (toL a).length = n := ⟨_, rfl⟩
          rw [hn4] at HN4 ⊢
          clear ha hn4
          go_wp2_with fail
          refine (make_whole _ a w4 HN4.out (HT.out.below HW4.out) (by have := HM.out; omega) HM.out.2.2.2.2).mono ?_
          rintro e w5 ⟨s5, o, u, rfl, hn5, ho5, hou, hbo, hu5, hb5⟩
          have hb6 := below_alloc' w5 (.cells #[.bool false, s5, .int .i64 (u : Int)] 86)
          have HN6 := Lib.hid (hn5.below hb6)
          have HB6 := Lib.hid ((HB4.out.below hb5).below hb6)
          have HW6 := Lib.hid (below_chain (below_chain HW4.out hb5) hb6)
          have HO := Lib.hid (show o % 2 = 1 ∧ o * 2 ^ u = a ∧ blen o ≤ 500000 ∧ u ≤ 1048576 from ⟨ho5, hou, by have := HM.out; omega, by have := HM.out; omega⟩)
          obtain ⟨A5, c5, rfl, hc5, hr5⟩ := hn5
          obtain ⟨n5, hn5⟩ : ∃ n, (toL o).length = n := ⟨_, rfl⟩
          rw [hn5] at HN6 HB6 HW6 ⊢
          have y0 : (w5.alloc (.cells #[.bool false, .slice A5 n5 c5, .int .i64 (u : Int)] 86)).cell? ⟨w5.heap.size, 0, none⟩ = some (.bool false) := by simp
          have y1 : (w5.alloc (.cells #[.bool false, .slice A5 n5 c5, .int .i64 (u : Int)] 86)).cell? ⟨w5.heap.size, 1, none⟩ = some (.slice A5 n5 c5) := by simp
          have y2 : (w5.alloc (.cells #[.bool false, .slice A5 n5 c5, .int .i64 (u : Int)] 86)).cell? ⟨w5.heap.size, 2, none⟩ = some (.int .i64 (u : Int)) := by simp
          clear hb5 hb6 hc5 hr5 hn5 ho5 hou hbo hu5 HB4 HW4 HN4
          go_wp2_with fail
          obtain ⟨w6, hw6⟩ : ∃ w6, w5.alloc (.cells #[.bool false, .slice A5 n5 c5, .int .i64 (u : Int)] 86) = w6 := ⟨_, rfl⟩
          rw [hw6] at HN6 HB6 HW6 ⊢
          clear hw6 y0 y1 y2
          refine (HNe.out w6 _ o u HN6.out (HT.out.below HW6.out) HO.out.2.2.1 HO.out.2.2.2 HO.out.1).mono ?_
          rintro e w7 ⟨p, rfl, hp, hpl, hb7⟩
          have HP := Lib.hid (show IsPat f (tn m (k : Int)) (td (k : Int)) p by rw [HE.out.1, HE.out.2, ← HO.out.2.1]; exact hp)
          have HPl := Lib.hid hpl
          have HB7 := Lib.hid (HB6.out.below hb7)
          have HW7 := Lib.hid (below_chain HW6.out hb7)
          have HS7 := HS.out p hpl
          obtain ⟨b0, b1, b2, _⟩ := HB7.out
          clear hp hpl hb7 HB6 HW6 HN6 HS HNe
          go_wp2_with fail
          refine (HS7.out _).mono ?_
          rintro e w8 ⟨rfl, rfl⟩
          go_wp2
          go_ret
          exact ⟨p, rfl, HP.out, HPl.out, HW7.out⟩
        · obtain ⟨k, hk⟩ : ∃ k : Nat, -x = (k : Int) := ⟨(-x).toNat, by omega⟩
          have hkb : k ≤ 4500 := by omega
          have hb10 := blen_pow_ten k
          have h10 : 10 ^ k ≠ 0 := by have := Nat.pow_pos (n := k) (show 0 < 10 by omega); omega
          have HE := Lib.hid (show tn m x = m ∧ td x = 10 ^ k by
            unfold tn td
            rw [hk, Int.toNat_natCast, show x.toNat = 0 by omega, Nat.pow_zero, Nat.mul_one]
            exact ⟨rfl, rfl⟩)
          have HM := Lib.hid (show blen m ≤ 25600 ∧ m ≠ 0 ∧ blen (10 ^ k) ≤ 25600 ∧ 10 ^ k ≠ 0 from ⟨hbm, hm0, by omega, h10⟩)
          have hki : ¬ (0 : Int) ≤ x := hx0
          have hkn : IntKind.i64.wrap (-x) = (k : Int) := by rw [IntKind.wrap_i64]; omega
          have hkl : k ≤ 100000 := by omega
          clear hn0 hem hsz hS hn hlt hSS hB0 hw0 ht hD hge hlow hhi hm hm0 hsm hbm hx0 hSd HI HNe hl hb10 h10 hkb hk
          go_enter Tryz.func221, Tryz.ntmps221
          go_wp2_with fail
          obtain ⟨w1, hw1⟩ : ∃ w1, w.alloc (.cells #[.bool neg, .string S, .int .i64 x] 278) = w1 := ⟨_, rfl⟩
          rw [hw1] at HB0 HW0 ⊢
          clear hw1 b0 b1 b2
          refine (hRead.out w1).mono ?_
          rintro e w2 ⟨v2, rfl, hn2, hb2⟩
          have HN2 := Lib.hid hn2
          have HB2 := Lib.hid (HB0.out.below hb2)
          have HW2 := Lib.hid (below_chain HW0.out hb2)
          obtain ⟨b0, b1, b2, _⟩ := HB2.out
          obtain ⟨A2, c2, rfl, hc2, hr2⟩ := hn2
          obtain ⟨n2, hn2⟩ : ∃ n, (toL m).length = n := ⟨_, rfl⟩
          rw [hn2] at HN2 ⊢
          clear hn2 hb2 HB0 hRead hc2 hr2
          go_wp2_with fail
          refine (make_whole _ m w2 HN2.out (HT.out.below HW2.out) (by have := HM.out; omega) HM.out.2.1).mono ?_
          rintro e w3 ⟨s3, o, u, rfl, hn3, ho3, hou, hbo, hu3, hb3⟩
          have hb4 := below_alloc' w3 (.cells #[.bool false, s3, .int .i64 (u : Int)] 86)
          have HN4 := Lib.hid (hn3.below hb4)
          have HB4 := Lib.hid ((HB2.out.below hb3).below hb4)
          have HW4 := Lib.hid (below_chain (below_chain HW2.out hb3) hb4)
          have HO := Lib.hid (show o % 2 = 1 ∧ o * 2 ^ u = m ∧ blen o ≤ 100000 ∧ u ≤ 500000 from ⟨ho3, hou, by have := HM.out; omega, by have := HM.out; omega⟩)
          obtain ⟨A3, c3, rfl, hc3, hr3⟩ := hn3
          obtain ⟨n3, hn3⟩ : ∃ n, (toL o).length = n := ⟨_, rfl⟩
          rw [hn3] at HN4 HB4 HW4 ⊢
          have HY4 : Hid (Box3 (w3.alloc (.cells #[.bool false, .slice A3 n3 c3, .int .i64 (u : Int)] 86)) w3.heap.size (.bool false) (.slice A3 n3 c3) (.int .i64 (u : Int))) := Lib.hid ⟨by simp, by simp, by simp, by simp, by simp, by simp, by simp⟩
          obtain ⟨b0, b1, b2, _⟩ := HB4.out
          clear hb3 hb4 hc3 hr3 hn3 ho3 hou hbo hu3 HB2 HW2 HN2
          go_wp2_with fail
          obtain ⟨w4, hw4⟩ : ∃ w4, w3.alloc (.cells #[.bool false, .slice A3 n3 c3, .int .i64 (u : Int)] 86) = w4 := ⟨_, rfl⟩
          obtain ⟨g3, hg3⟩ : ∃ g, w3.heap.size = g := ⟨_, rfl⟩
          rw [hw4] at HN4 HB4 HW4 HY4 ⊢
          rw [hg3] at HY4 ⊢
          clear hw4 hg3 b0 b1 b2
          refine (ten_walk k hkl w4).mono ?_
          rintro e w5 ⟨v5, rfl, hn5, hb5⟩
          have HN5 := Lib.hid hn5
          have HN45 := Lib.hid (HN4.out.below hb5)
          have HY5 := Lib.hid (HY4.out.below hb5)
          have HB5 := Lib.hid (HB4.out.below hb5)
          have HW5 := Lib.hid (below_chain HW4.out hb5)
          obtain ⟨t, ht⟩ : ∃ t, 10 ^ k = t := ⟨_, rfl⟩
          obtain ⟨A5, c5, rfl, hc5, hr5⟩ := hn5
          rw [ht] at HE HM HN5 ⊢
          obtain ⟨n5, hn5⟩ : ∃ n, (toL t).length = n := ⟨_, rfl⟩
          rw [hn5] at HN5 ⊢
          clear hn5 hb5 HB4 HW4 HY4 HN4 hc5 hr5 ht
          go_wp2_with fail
          refine (make_whole _ t w5 HN5.out (HT.out.below HW5.out) (by have := HM.out; omega) HM.out.2.2.2).mono ?_
          rintro e w6 ⟨s6, o', u', rfl, hn6, ho6, hou6, hbo6, hu6, hb6⟩
          have hb7 := below_alloc' w6 (.cells #[.bool false, s6, .int .i64 (u' : Int)] 86)
          have HN7 := Lib.hid (hn6.below hb7)
          have HN47 := Lib.hid ((HN45.out.below hb6).below hb7)
          have HB7 := Lib.hid ((HB5.out.below hb6).below hb7)
          have HY7 := Lib.hid ((HY5.out.below hb6).below hb7)
          have HW7 := Lib.hid (below_chain (below_chain HW5.out hb6) hb7)
          have HO' := Lib.hid (show o' % 2 = 1 ∧ o' * 2 ^ u' = t ∧ blen o' ≤ 100000 ∧ u' ≤ 500000 from ⟨ho6, hou6, by have := HM.out; omega, by have := HM.out; omega⟩)
          obtain ⟨A6, c6, rfl, hc6, hr6⟩ := hn6
          obtain ⟨n6, hn6⟩ : ∃ n, (toL o').length = n := ⟨_, rfl⟩
          rw [hn6] at HN7 HB7 HW7 HY7 HN47 ⊢
          have y0 : (w6.alloc (.cells #[.bool false, .slice A6 n6 c6, .int .i64 (u' : Int)] 86)).cell? ⟨w6.heap.size, 0, none⟩ = some (.bool false) := by simp
          have y1 : (w6.alloc (.cells #[.bool false, .slice A6 n6 c6, .int .i64 (u' : Int)] 86)).cell? ⟨w6.heap.size, 1, none⟩ = some (.slice A6 n6 c6) := by simp
          have y2 : (w6.alloc (.cells #[.bool false, .slice A6 n6 c6, .int .i64 (u' : Int)] 86)).cell? ⟨w6.heap.size, 2, none⟩ = some (.int .i64 (u' : Int)) := by simp
          obtain ⟨x0, x1, x2, _⟩ := HY7.out
          clear hb6 hb7 hc6 hr6 hn6 ho6 hou6 hbo6 hu6 HB5 HW5 HY5 HN5 HN45
          go_wp2_with fail
          obtain ⟨w7, hw7⟩ : ∃ w7, w6.alloc (.cells #[.bool false, .slice A6 n6 c6, .int .i64 (u' : Int)] 86) = w7 := ⟨_, rfl⟩
          rw [hw7] at HN7 HB7 HW7 HN47 ⊢
          clear hw7 y0 y1 y2 x0 x1 x2 HY7
          refine (HQu.out w7 _ _ o o' u u' HN47.out HN7.out (HT.out.below HW7.out) HO.out.1 HO'.out.1 HO.out.2.2.1 HO'.out.2.2.1 HO.out.2.2.2 HO'.out.2.2.2).mono ?_
          rintro e w8 ⟨p, rfl, hp, hpl, hb8⟩
          have HP := Lib.hid (show IsPat f (tn m x) (td x) p by rw [HE.out.1, HE.out.2, ← HO.out.2.1, ← HO'.out.2.1]; exact hp)
          have HPl := Lib.hid hpl
          have HB8 := Lib.hid (HB7.out.below hb8)
          have HW8 := Lib.hid (below_chain HW7.out hb8)
          have HS8 := HS.out p hpl
          obtain ⟨b0, b1, b2, _⟩ := HB8.out
          clear hp hpl hb8 HB7 HW7 HN7 HN47 HS HQu
          go_wp2_with fail
          refine (HS8.out _).mono ?_
          rintro e w9 ⟨rfl, rfl⟩
          go_wp2
          go_ret
          exact ⟨p, rfl, HP.out, HPl.out, HW8.out⟩
end Go.Proofs.YtibjogbalmbeeaaGreatDoor
