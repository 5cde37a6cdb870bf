/- Walks of hexfloat's reader: hex, decimal. -/
import Derived.Test.YtooehlneoboenaaGreatDoorHa
namespace Go.Proofs.YtooehlneoboenaaGreatDoor
open Go.RowKit

/-- From i on as far as p holds. -/
def runTo (p : UInt8 → Bool) (s : ByteArray) : Nat → Nat → Nat
  | 0, i => i
  | f + 1, i => if i < s.size ∧ p (by8 s i) = true then runTo p s f (i + 1) else i
theorem runTo_ge (p : UInt8 → Bool) (s : ByteArray) (f i : Nat) : i ≤ runTo p s f i := by
  induction f generalizing i with
  | zero => exact Nat.le_refl _
  | succ f ih => unfold runTo; split; exact Nat.le_trans (Nat.le_succ i) (ih _); exact Nat.le_refl _
theorem runTo_le (p : UInt8 → Bool) (s : ByteArray) (f i : Nat) (h : i ≤ s.size) : runTo p s f i ≤ s.size := by
  induction f generalizing i with
  | zero => exact h
  | succ f ih =>
    unfold runTo
    split
    · rename_i h2; exact ih _ h2.1
    · exact h
theorem runTo_of (p : UInt8 → Bool) (s : ByteArray) (f i k : Nat) (hik : i ≤ k) (hf : s.size ≤ i + f) (hk : k ≤ s.size) (hall : ∀ j, i ≤ j → j < k → p (by8 s j) = true) (hend : ¬ (k < s.size ∧ p (by8 s k) = true)) : runTo p s f i = k := by
  induction f generalizing i with
  | zero => unfold runTo; omega
  | succ f ih =>
    unfold runTo
    by_cases h : i = k
    · subst h; rw [if_neg hend]
    · rw [if_pos ⟨by omega, hall i (Nat.le_refl _) (by omega)⟩]
      exact ih (i + 1) (by omega) (by omega) fun j h1 h2 => hall j (by omega) h2
def hexSet : ByteArray := ⟨#[48, 49, 50, 51, 52, 53, 54, 55, 56, 57, 97, 98, 99, 100, 101, 102, 65, 66, 67, 68, 69, 70]⟩
def decSet : ByteArray := ⟨#[48, 49, 50, 51, 52, 53, 54, 55, 56, 57]⟩
def isHex (c : UInt8) : Bool := hexSet.data.toList.contains c
def isDec (c : UInt8) : Bool := decSet.data.toList.contains c
/-- Where the hexadecimal digits end that begin at i. -/
def hxE (s : ByteArray) (i : Nat) : Nat := runTo isHex s s.size i
/-- Where the reader stands, by the world. -/
def idxOf (b : Nat) (w : World) : Nat := match w.cell? ⟨b, 1, none⟩ with | some (.int _ n) => n.toNat | _ => 0
theorem idxOf_box {w : World} {b : Nat} {v : Value} {i : Nat} (h : Box2 w b v (.int .i64 (i : Int))) : idxOf b w = i := by
  unfold idxOf; rw [h.2.1]; simp

set_option maxRecDepth 100000 in
theorem hex_walk (b : Nat) (s : ByteArray) (i : Nat) (w : World) (hB : Box2 w b (.string s) (.int .i64 (i : Int))) (hi : i ≤ s.size) (hs : s.size ≤ 100000) :
    Calls Tryz.prog 58 #[.pointer (some ⟨b, 0, none⟩)] w fun e w' => e = .returned (.string (s.extract i (hxE s i))) ∧ Box2 w' b (.string s) (.int .i64 ((hxE s i : Nat) : Int)) ∧ Below b w w' := by
  have HB := Lib.hid hB
  obtain ⟨b0, b1, b2, b3, b4⟩ := hB
  go_enter Tryz.func58, Tryz.ntmps58
  go_wp2_with fail
  clear b0 b1 b2 b3 b4
  go_loopw [10] (fun _ wr => ∃ k : Nat, i ≤ k ∧ k ≤ s.size ∧ Hid (∀ j, i ≤ j → j < k → isHex (by8 s j) = true) ∧ Hid (Box2 wr b (.string s) (.int .i64 (k : Int))) ∧ Hid (Below b w wr)) (fun _ wr => s.size - idxOf b wr)
  case atStart => exact ⟨i, Nat.le_refl _, hi, Lib.hid (fun j h1 h2 => by omega), HB, Lib.hid (Below.refl _ _)⟩
  case round =>
    obtain ⟨k, hik, hk, HA, HK, HW⟩ := hrel
    by_cases hc : k < s.size ∧ isHex (by8 s k) = true
    · have ht := take_yes b s hexSet k wr HK.out hc.1 hs hc.2
      have HT := Lib.hid ht
      have hlt := hc.1
      have HC := Lib.hid hc.2
      clear ht hc
      go_wp2_with fail
      refine HT.out.mono ?_
      rintro e w1 ⟨rfl, hB1, hb1⟩
      have HB1 := Lib.hid hB1
      have HW1 := Lib.hid (HW.out.trans hb1)
      clear hB1 hb1
      go_wp2_with fail
      go_roundw
      case rel => exact ⟨k + 1, by omega, by omega, Lib.hid (fun j h1 h2 => by by_cases e : j = k; (· rw [e]; exact HC.out); (· exact HA.out j h1 (by omega))), HB1, HW1⟩
      case measure => rw [idxOf_box HB1.out, idxOf_box HK.out]; omega
    · have ht := take_no b s hexSet k wr HK.out hs (fun h => by
        cases hx : hexSet.data.toList.contains (by8 s k)
        · rfl
        · exact absurd ⟨h, hx⟩ hc)
      have HT := Lib.hid ht
      have HE := Lib.hid (show hxE s i = k from runTo_of _ _ _ _ _ hik (by omega) hk HA.out hc)
      clear ht hc
      go_wp2_with fail
      refine HT.out.mono ?_
      rintro e w1 ⟨rfl, hB1, hb1⟩
      have HB1 := Lib.hid hB1
      have HW1 := Lib.hid (HW.out.trans hb1)
      obtain ⟨b0, b1, b2, b3, b4⟩ := hB1
      clear hb1
      go_wp2_with fail
      have r1 : (i : Int) ≤ (k : Int) := by omega
      have r2 : (k : Int) ≤ (s.size : Int) := by omega
      have r3 : 0 ≤ (i : Int) := by omega
      go_quiet (fail)
      go_wp2
      go_ret
      exact ⟨by rw [HE.out]; rfl, by rw [HE.out]; exact HB1.out.below (below_dn (Below.refl _ _) _), below_dn HW1.out _⟩

def far : Nat := 1099511627776
/-- The number of m decimal digits from i on, far at most. -/
def dv (s : ByteArray) (i : Nat) : Nat → Nat
  | 0 => 0
  | m + 1 => min (10 * dv s i m + ((by8 s (i + m)).toNat - 48)) far
/-- Where the decimal digits end that begin at i. -/
def dcE (s : ByteArray) (i : Nat) : Nat := runTo isDec s s.size i
theorem dv_le (s : ByteArray) (i m : Nat) : dv s i m ≤ far := by
  cases m with
  | zero => exact Nat.zero_le _
  | succ m => exact Nat.min_le_right _ _
theorem isDec_range (c : UInt8) (h : isDec c = true) : 48 ≤ c.toNat ∧ c.toNat ≤ 57 := by
  unfold isDec decSet at h
  simp only [List.contains_eq_mem, List.mem_cons, List.not_mem_nil, or_false, decide_eq_true_eq] at h
  rcases h with h | h | h | h | h | h | h | h | h | h <;> subst h <;> decide

set_option maxRecDepth 100000 in
theorem decimal_no (b : Nat) (s : ByteArray) (i : Nat) (w : World) (hB : Box2 w b (.string s) (.int .i64 (i : Int))) (hs : s.size ≤ 100000) (hc : ¬ (i < s.size ∧ isDec (by8 s i) = true)) :
    Calls Tryz.prog 59 #[.pointer (some ⟨b, 0, none⟩)] w fun e w' => e = .panicked [faultAt i] ∧ Below b w w' := by
  have ht := take_no b s decSet i w hB hs (fun h => by
    cases hx : decSet.data.toList.contains (by8 s i)
    · rfl
    · exact absurd ⟨h, hx⟩ hc)
  have HT := Lib.hid ht
  clear ht hc hB
  go_enter Tryz.func59, Tryz.ntmps59
  go_wp2_with fail
  refine wp_loop_rounds 1 ?_
  rw [rounds_succ]
  go_wp2_with fail
  refine HT.out.mono ?_
  rintro e w1 ⟨rfl, hB1, hb1⟩
  have HB1 := Lib.hid hB1
  clear hB1
  go_wp2_with fail
  refine (fail_walk b s i w1 HB1.out).mono ?_
  rintro e w2 ⟨rfl, rfl⟩
  go_wp2
  exact ⟨rfl, rfl, hb1⟩

set_option maxRecDepth 100000 in
theorem decimal_yes (b : Nat) (s : ByteArray) (i : Nat) (w : World) (hB : Box2 w b (.string s) (.int .i64 (i : Int))) (hs : s.size ≤ 100000) (hc0 : i < s.size ∧ isDec (by8 s i) = true) :
    Calls Tryz.prog 59 #[.pointer (some ⟨b, 0, none⟩)] w fun e w' => e = .returned (.int .i64 ((dv s i (dcE s i - i) : Nat) : Int)) ∧ Box2 w' b (.string s) (.int .i64 ((dcE s i : Nat) : Int)) ∧ Below b w w' := by
  have HB := Lib.hid hB
  have HC0 := Lib.hid hc0
  clear hB hc0
  go_enter Tryz.func59, Tryz.ntmps59
  go_wp2_with fail
  go_loopw [3, 4] (fun n m wr => ∃ k : Nat, i + k ≤ s.size ∧ n = .int .i64 ((dv s i k : Nat) : Int) ∧ m = .int .i64 (k : Int) ∧ Hid (∀ j, i ≤ j → j < i + k → isDec (by8 s j) = true) ∧ Hid (Box2 wr b (.string s) (.int .i64 ((i + k : Nat) : Int))) ∧ Hid (Below b w wr)) (fun _ m _ => s.size - (intOf m).toNat)
  case atStart => exact ⟨0, by have := HC0.out.1; omega, rfl, rfl, Lib.hid (fun j h1 h2 => by omega), HB, Lib.hid (Below.refl _ _)⟩
  case round =>
    obtain ⟨k, hk, rfl, rfl, HA, HK, HW⟩ := hrel
    by_cases hc : i + k < s.size ∧ isDec (by8 s (i + k)) = true
    · have ht := take_yes b s decSet (i + k) wr HK.out hc.1 hs hc.2
      have HT := Lib.hid ht
      have hlt := hc.1
      have HC := Lib.hid hc.2
      have hr := isDec_range _ hc.2
      have hd := dv_le s i k
      unfold far at hd
      have HS := Lib.hid (show dv s i (k + 1) = min (10 * dv s i k + ((by8 s (i + k)).toNat - 48)) 1099511627776 from rfl)
      clear ht hc
      generalize dv s i k = n0 at *
      generalize hcc : (by8 s (i + k)).toNat = cc at *
      clear hcc
      go_wp2_with fail
      refine HT.out.mono ?_
      rintro e w1 ⟨rfl, hB1, hb1⟩
      have HB1 := Lib.hid hB1
      have HW1 := Lib.hid (HW.out.trans hb1)
      clear hB1 hb1
      go_wp2_with fail
      go_roundw
      case rel => exact ⟨k + 1, by omega, by rw [HS.out]; congr 1; omega, by go_num, Lib.hid (fun j h1 h2 => by by_cases e : j = i + k; (· rw [e]; exact HC.out); (· exact HA.out j h1 (by omega))), HB1, HW1⟩
      case measure => simp [intOf]; omega
    · have hk0 : k ≠ 0 := fun e => by subst e; exact hc HC0.out
      have ht := take_no b s decSet (i + k) wr HK.out hs (fun h => by
        cases hx : decSet.data.toList.contains (by8 s (i + k))
        · rfl
        · exact absurd ⟨h, hx⟩ hc)
      have HT := Lib.hid ht
      have he : dcE s i = i + k := runTo_of _ _ _ _ _ (by omega) (by omega) hk HA.out hc
      have hv : dv s i (dcE s i - i) = dv s i k := by rw [he]; congr 1; omega
      have HE := Lib.hid he
      have HV := Lib.hid hv
      have hkb : ((k : Int) == 0) = false := by rw [beq_eq_false_iff_ne]; omega
      clear ht hc he hv
      go_wp2_with fail
      refine HT.out.mono ?_
      rintro e w1 ⟨rfl, hB1, hb1⟩
      have HB1 := Lib.hid hB1
      have HW1 := Lib.hid (HW.out.trans hb1)
      clear hB1 hb1
      go_wp2
      go_ret
      exact ⟨by rw [HV.out]; rfl, by rw [HE.out]; exact HB1.out, HW1.out⟩
end Go.Proofs.YtooehlneoboenaaGreatDoor
