/- Walks of hexfloat's reader: take, fail, must, sign. · Walks of hexfloat's reader: hex, decimal. · Walks of hexfloat: value, limbs. · Walks of hexfloat: pattern, for both formats (printed by gen_pat.py). -/
import Derived.Test.YtibjogbalmbeeaaGreatDoorY06
import Derived.Lib.IndexAny
import Derived.Test.YtibjogbalmbeeaaGreatDoorY10

namespace Go.Proofs.YtibjogbalmbeeaaGreatDoor
open Go.RowKit

set_option maxRecDepth 100000 in
theorem take_yes (b : Nat) (s t : ByteArray) (i : Nat) (w : World) (hB : Box2 w b (.string s) (.int .i64 (i : Int))) (hi : i < s.size) (hs : s.size ≤ 100000) (hc : t.data.toList.contains (by8 s i) = true) :
    Calls Tryz.prog 256 #[.pointer (some ⟨b, 0, none⟩), .string t] w fun e w' => e = .returned (.tuple #[.int .u8 ((by8 s i).toNat : Int), .bool true]) ∧ Box2 w' b (.string s) (.int .i64 ((i + 1 : Nat) : Int)) ∧ Below b w w' := by
  obtain ⟨b0, b1, b2, b3, b4⟩ := hB
  have hix := fun w1 => run_byte s i hi (by omega) w1
  rw [Lib.contains_iff_indexByte] at hc
  have hge : decide (0 ≤ Lib.indexByte t.data.toList (by8 s i)) = true := hc
  have hge2 : 0 ≤ Lib.indexByte t.data.toList (by8 s i) := of_decide_eq_true hc
  have hlt : (i : Int) < (s.size : Int) := by omega
  have hit : ((by8 s i).toNat : Int).toNat.toUInt8 = by8 s i := by simp
  have HIT := Lib.hid hit
  have hi0 : 0 ≤ (i : Int) := by omega
  clear hit hc
  go_enter Tryz.func256, Tryz.ntmps256
  go_wp2_with fail
  go_quiet ((go_at_call 193; exact Calls.quiet_of_same (Tryz.strings_IndexByte _ _ _)))
  rw [HIT.out]
  go_wp2_with fail
  have hB1 : Box2 ((w.drewN nq).setCell ⟨b, 1, none⟩ (.int .i64 ((i : Int) + 1))) b (.string s) (.int .i64 ((i : Int) + 1)) := by
    refine ⟨?_, ?_, ?_, ?_, ?_⟩
    · rw [cell_other (by simp)]; exact b0
    · exact World.cell?_setCell_same' _ _ _ (by rw [show (w.drewN nq).cell? ⟨b, 1, none⟩ = w.cell? ⟨b, 1, none⟩ from rfl, b1]; rfl)
    · simp; exact b2
    · simp; exact b3
    · simp; exact b4
  have hL1 : Below b w ((w.drewN nq).setCell ⟨b, 1, none⟩ (.int .i64 ((i : Int) + 1))) := (below_dn (Below.refl b w) _).setCell (p := ⟨b, 1, none⟩) (Nat.le_refl _) _
  generalize (w.drewN nq).setCell ⟨b, 1, none⟩ (.int .i64 ((i : Int) + 1)) = w1 at *
  clear b0 b1 b2 b3 b4
  have HB1 := Lib.hid hB1
  obtain ⟨b0, b1, b2, b3, b4⟩ := hB1
  have q1 : IntKind.i64.wrap ((i : Int) + 1 - 1) = (i : Int) := by rw [IntWalk.i64_in _ (by omega)]; omega
  go_quiet (fail)
  go_wp2
  go_ret2
  have e : ((i + 1 : Nat) : Int) = (i : Int) + 1 := by omega
  exact ⟨rfl, by rw [e]; exact HB1.out.below (below_dn (Below.refl _ _) _), below_dn hL1 _⟩

set_option maxRecDepth 100000 in
theorem take_no (b : Nat) (s t : ByteArray) (i : Nat) (w : World) (hB : Box2 w b (.string s) (.int .i64 (i : Int))) (hs : s.size ≤ 100000) (hc : i < s.size → t.data.toList.contains (by8 s i) = false) :
    Calls Tryz.prog 256 #[.pointer (some ⟨b, 0, none⟩), .string t] w fun e w' => e = .returned (.tuple #[.int .u8 0, .bool false]) ∧ Box2 w' b (.string s) (.int .i64 (i : Int)) ∧ Below b w w' := by
  have HB := Lib.hid hB
  obtain ⟨b0, b1, b2, b3, b4⟩ := hB
  by_cases hi : i < s.size
  · have hix := fun w1 => run_byte s i hi (by omega) w1
    have hc := hc hi
    rw [Lib.contains_iff_indexByte] at hc
    have hge : decide (0 ≤ Lib.indexByte t.data.toList (by8 s i)) = false := hc
    have hge2 : ¬ 0 ≤ Lib.indexByte t.data.toList (by8 s i) := of_decide_eq_false hc
    have hlt : (i : Int) < (s.size : Int) := by omega
    have hit : ((by8 s i).toNat : Int).toNat.toUInt8 = by8 s i := by simp
    have HIT := Lib.hid hit
    have hi0 : 0 ≤ (i : Int) := by omega
    clear hit hc
    go_enter Tryz.func256, Tryz.ntmps256
    go_wp2_with fail
    go_quiet ((go_at_call 193; exact Calls.quiet_of_same (Tryz.strings_IndexByte _ _ _)))
    rw [HIT.out]
    go_wp2
    go_ret2
    exact ⟨rfl, HB.out.below (below_dn (Below.refl _ _) _), below_dn (Below.refl _ _) _⟩
  · have hlt : decide ((i : Int) < (s.size : Int)) = false := decide_eq_false (by omega)
    have hlt2 : ¬ (i : Int) < (s.size : Int) := by omega
    clear hc
    go_enter Tryz.func256, Tryz.ntmps256
    go_wp2_with fail
    go_quiet (fail)
    go_wp2
    go_ret2
    exact ⟨rfl, HB.out.below (below_dn (Below.refl _ _) _), below_dn (Below.refl _ _) _⟩

/-- What the reader gives up with. -/
def faultAt (i : Int) : PanicEntry := { v := .iface 281 (.agg #[.int .i64 i]), recovered := false }

set_option maxRecDepth 100000 in
theorem fail_walk (b : Nat) (s : ByteArray) (i : Nat) (w : World) (hB : Box2 w b (.string s) (.int .i64 (i : Int))) :
    Calls Tryz.prog 242 #[.pointer (some ⟨b, 0, none⟩)] w fun e w' => e = .panicked [faultAt i] ∧ w = w' := by
  obtain ⟨b0, b1, b2, b3, b4⟩ := hB
  go_enter Tryz.func242, Tryz.ntmps242
  go_wp2
  exact ⟨rfl, rfl, rfl⟩

set_option maxRecDepth 100000 in
theorem must_yes (b : Nat) (s t : ByteArray) (i : Nat) (w : World) (hB : Box2 w b (.string s) (.int .i64 (i : Int))) (hi : i < s.size) (hs : s.size ≤ 100000) (hc : t.data.toList.contains (by8 s i) = true) :
    Calls Tryz.prog 257 #[.pointer (some ⟨b, 0, none⟩), .string t] w fun e w' => e = .returned (.tuple #[]) ∧ Box2 w' b (.string s) (.int .i64 ((i + 1 : Nat) : Int)) ∧ Below b w w' := by
  have ht := take_yes b s t i w hB hi hs hc
  have HT := Lib.hid ht
  clear ht hc hB
  go_enter Tryz.func257, Tryz.ntmps257
  go_wp2_with fail
  refine HT.out.mono ?_
  rintro e w1 ⟨rfl, hB1, hb1⟩
  have HB1 := Lib.hid hB1
  clear hB1
  go_wp2
  go_end0
  exact ⟨rfl, HB1.out, hb1⟩

set_option maxRecDepth 100000 in
theorem must_no (b : Nat) (s t : ByteArray) (i : Nat) (w : World) (hB : Box2 w b (.string s) (.int .i64 (i : Int))) (hs : s.size ≤ 100000) (hc : i < s.size → t.data.toList.contains (by8 s i) = false) :
    Calls Tryz.prog 257 #[.pointer (some ⟨b, 0, none⟩), .string t] w fun e w' => e = .panicked [faultAt i] ∧ Below b w w' := by
  have ht := take_no b s t i w hB hs hc
  have HT := Lib.hid ht
  clear ht hc hB
  go_enter Tryz.func257, Tryz.ntmps257
  go_wp2_with fail
  refine HT.out.mono ?_
  rintro e w1 ⟨rfl, hB1, hb1⟩
  have HB1 := Lib.hid hB1
  clear hB1
  go_wp2_with fail
  refine (fail_walk b s i w1 HB1.out).mono ?_
  rintro e w2 ⟨rfl, rfl⟩
  go_wp2
  exact ⟨rfl, rfl, hb1⟩

set_option maxRecDepth 100000 in
theorem sign_walk (b : Nat) (s : ByteArray) (i : Nat) (w : World) (hB : Box2 w b (.string s) (.int .i64 (i : Int))) (hs : s.size ≤ 100000) :
    Calls Tryz.prog 239 #[.pointer (some ⟨b, 0, none⟩)] w fun e w' => e = .returned (.bool (sgB s i)) ∧ Box2 w' b (.string s) (.int .i64 ((sgI s i : Nat) : Int)) ∧ Below b w w' := by
  by_cases hc : i < s.size ∧ (by8 s i = 45 ∨ by8 s i = 43)
  · have ht := take_yes b s ⟨#[43, 45]⟩ i w hB hc.1 hs (by rcases hc.2 with h | h <;> rw [h] <;> rfl)
    have HT := Lib.hid ht
    have HI := Lib.hid (show sgI s i = i + 1 by unfold sgI; rw [if_pos hc])
    have HG := Lib.hid (show (((by8 s i).toNat : Int) == 45) = sgB s i by
      unfold sgB
      rcases hc.2 with h | h <;> rw [h] <;> simp [hc.1])
    clear ht hB hc
    go_enter Tryz.func239, Tryz.ntmps239
    go_wp2_with fail
    refine HT.out.mono ?_
    rintro e w1 ⟨rfl, hB1, hb1⟩
    have HB1 := Lib.hid hB1
    clear hB1
    go_wp2
    go_ret
    exact ⟨by rw [← HG.out]; rfl, by rw [HI.out]; exact HB1.out, hb1⟩
  · have ht := take_no b s ⟨#[43, 45]⟩ i w hB hs (fun hi => by
      have h1 : ¬ by8 s i = 45 := fun e => hc ⟨hi, .inl e⟩
      have h2 : ¬ by8 s i = 43 := fun e => hc ⟨hi, .inr e⟩
      simp [h1, h2])
    have HT := Lib.hid ht
    have HI := Lib.hid (show sgI s i = i by unfold sgI; rw [if_neg hc])
    have HG := Lib.hid (show false = sgB s i by
      unfold sgB
      by_cases hi : i < s.size
      · have h1 : ¬ by8 s i = 45 := fun e => hc ⟨hi, .inl e⟩
        simp [h1]
      · simp [hi])
    clear ht hB hc
    go_enter Tryz.func239, Tryz.ntmps239
    go_wp2_with fail
    refine HT.out.mono ?_
    rintro e w1 ⟨rfl, hB1, hb1⟩
    have HB1 := Lib.hid hB1
    clear hB1
    go_wp2
    go_ret
    exact ⟨by rw [← HG.out]; rfl, by rw [HI.out]; exact HB1.out, hb1⟩
end Go.Proofs.YtibjogbalmbeeaaGreatDoor

namespace Go.Proofs.YtibjogbalmbeeaaGreatDoor
open Go.RowKit

set_option maxRecDepth 100000 in
theorem hex_walk (b : Nat) (s : ByteArray) (i : Nat) (w : World) (hB : Box2 w b (.string s) (.int .i64 (i : Int))) (hi : i ≤ s.size) (hs : s.size ≤ 100000) :
    Calls Tryz.prog 258 #[.pointer (some ⟨b, 0, none⟩)] w fun e w' => e = .returned (.string (s.extract i (hxE s i))) ∧ Box2 w' b (.string s) (.int .i64 ((hxE s i : Nat) : Int)) ∧ Below b w w' := by
  have HB := Lib.hid hB
  obtain ⟨b0, b1, b2, b3, b4⟩ := hB
  go_enter Tryz.func258, Tryz.ntmps258
  go_wp2_with fail
  clear b0 b1 b2 b3 b4
  go_loopw [10] (fun _ wr => ∃ k : Nat, i ≤ k ∧ k ≤ s.size ∧ Hid (∀ j, i ≤ j → j < k → isHex (by8 s j) = true) ∧ Hid (Box2 wr b (.string s) (.int .i64 (k : Int))) ∧ Hid (Below b w wr)) (fun _ wr => s.size - idxOf b wr)
  case atStart => exact ⟨i, Nat.le_refl _, hi, Lib.hid (fun j h1 h2 => by omega), HB, Lib.hid (Below.refl _ _)⟩
  case round =>
    obtain ⟨k, hik, hk, HA, HK, HW⟩ := hrel
    by_cases hc : k < s.size ∧ isHex (by8 s k) = true
    · have ht := take_yes b s hexSet k wr HK.out hc.1 hs hc.2
      have HT := Lib.hid ht
      have hlt := hc.1
      have HC := Lib.hid hc.2
      clear ht hc
      go_wp2_with fail
      refine HT.out.mono ?_
      rintro e w1 ⟨rfl, hB1, hb1⟩
      have HB1 := Lib.hid hB1
      have HW1 := Lib.hid (HW.out.trans hb1)
      clear hB1 hb1
      go_wp2_with fail
      go_roundw
      case rel => exact ⟨k + 1, by omega, by omega, Lib.hid (fun j h1 h2 => by by_cases e : j = k; (· rw [e]; exact HC.out); (· exact HA.out j h1 (by omega))), HB1, HW1⟩
      case measure => rw [idxOf_box HB1.out, idxOf_box HK.out]; omega
    · have ht := take_no b s hexSet k wr HK.out hs (fun h => by
        cases hx : hexSet.data.toList.contains (by8 s k)
        · rfl
        · exact absurd ⟨h, hx⟩ hc)
      have HT := Lib.hid ht
      have HE := Lib.hid (show hxE s i = k from runTo_of _ _ _ _ _ hik (by omega) hk HA.out hc)
      clear ht hc
      go_wp2_with fail
      refine HT.out.mono ?_
      rintro e w1 ⟨rfl, hB1, hb1⟩
      have HB1 := Lib.hid hB1
      have HW1 := Lib.hid (HW.out.trans hb1)
      obtain ⟨b0, b1, b2, b3, b4⟩ := hB1
      clear hb1
      go_wp2_with fail
      have r1 : (i : Int) ≤ (k : Int) := by omega
      have r2 : (k : Int) ≤ (s.size : Int) := by omega
      have r3 : 0 ≤ (i : Int) := by omega
      go_quiet (fail)
      go_wp2
      go_ret
      exact ⟨by rw [HE.out]; rfl, by rw [HE.out]; exact HB1.out.below (below_dn (Below.refl _ _) _), below_dn HW1.out _⟩

set_option maxRecDepth 100000 in
theorem decimal_no (b : Nat) (s : ByteArray) (i : Nat) (w : World) (hB : Box2 w b (.string s) (.int .i64 (i : Int))) (hs : s.size ≤ 100000) (hc : ¬ (i < s.size ∧ isDec (by8 s i) = true)) :
    Calls Tryz.prog 259 #[.pointer (some ⟨b, 0, none⟩)] w fun e w' => e = .panicked [faultAt i] ∧ Below b w w' := by
  have ht := take_no b s decSet i w hB hs (fun h => by
    cases hx : decSet.data.toList.contains (by8 s i)
    · rfl
    · exact absurd ⟨h, hx⟩ hc)
  have HT := Lib.hid ht
  clear ht hc hB
  go_enter Tryz.func259, Tryz.ntmps259
  go_wp2_with fail
  refine wp_loop_rounds 1 ?_
  rw [rounds_succ]
  go_wp2_with fail
  refine HT.out.mono ?_
  rintro e w1 ⟨rfl, hB1, hb1⟩
  have HB1 := Lib.hid hB1
  clear hB1
  go_wp2_with fail
  refine (fail_walk b s i w1 HB1.out).mono ?_
  rintro e w2 ⟨rfl, rfl⟩
  go_wp2
  exact ⟨rfl, rfl, hb1⟩

set_option maxRecDepth 100000 in
theorem decimal_yes (b : Nat) (s : ByteArray) (i : Nat) (w : World) (hB : Box2 w b (.string s) (.int .i64 (i : Int))) (hs : s.size ≤ 100000) (hc0 : i < s.size ∧ isDec (by8 s i) = true) :
    Calls Tryz.prog 259 #[.pointer (some ⟨b, 0, none⟩)] w fun e w' => e = .returned (.int .i64 ((dv s i (dcE s i - i) : Nat) : Int)) ∧ Box2 w' b (.string s) (.int .i64 ((dcE s i : Nat) : Int)) ∧ Below b w w' := by
  have HB := Lib.hid hB
  have HC0 := Lib.hid hc0
  clear hB hc0
  go_enter Tryz.func259, Tryz.ntmps259
  go_wp2_with fail
  go_loopw [3, 4] (fun n m wr => ∃ k : Nat, i + k ≤ s.size ∧ n = .int .i64 ((dv s i k : Nat) : Int) ∧ m = .int .i64 (k : Int) ∧ Hid (∀ j, i ≤ j → j < i + k → isDec (by8 s j) = true) ∧ Hid (Box2 wr b (.string s) (.int .i64 ((i + k : Nat) : Int))) ∧ Hid (Below b w wr)) (fun _ m _ => s.size - (intOf m).toNat)
  case atStart => exact ⟨0, by have := HC0.out.1; omega, rfl, rfl, Lib.hid (fun j h1 h2 => by omega), HB, Lib.hid (Below.refl _ _)⟩
  case round =>
    obtain ⟨k, hk, rfl, rfl, HA, HK, HW⟩ := hrel
    by_cases hc : i + k < s.size ∧ isDec (by8 s (i + k)) = true
    · have ht := take_yes b s decSet (i + k) wr HK.out hc.1 hs hc.2
      have HT := Lib.hid ht
      have hlt := hc.1
      have HC := Lib.hid hc.2
      have hr := isDec_range _ hc.2
      have hd := dv_le s i k
      unfold far at hd
      have HS := Lib.hid (show dv s i (k + 1) = min (10 * dv s i k + ((by8 s (i + k)).toNat - 48)) 1099511627776 from rfl)
      clear ht hc
      generalize dv s i k = n0 at *
      generalize hcc : (by8 s (i + k)).toNat = cc at *
      clear hcc
      go_wp2_with fail
      refine HT.out.mono ?_
      rintro e w1 ⟨rfl, hB1, hb1⟩
      have HB1 := Lib.hid hB1
      have HW1 := Lib.hid (HW.out.trans hb1)
      clear hB1 hb1
      go_wp2_with fail
      go_roundw
      case rel => exact ⟨k + 1, by omega, by rw [HS.out]; congr 1; omega, by go_num, Lib.hid (fun j h1 h2 => by by_cases e : j = i + k; (· rw [e]; exact HC.out); (· exact HA.out j h1 (by omega))), HB1, HW1⟩
      case measure => simp [intOf]; omega
    · have hk0 : k ≠ 0 := fun e => by subst e; exact hc HC0.out
      have ht := take_no b s decSet (i + k) wr HK.out hs (fun h => by
        cases hx : decSet.data.toList.contains (by8 s (i + k))
        · rfl
        · exact absurd ⟨h, hx⟩ hc)
      have HT := Lib.hid ht
      have he : dcE s i = i + k := runTo_of _ _ _ _ _ (by omega) (by omega) hk HA.out hc
      have hv : dv s i (dcE s i - i) = dv s i k := by rw [he]; congr 1; omega
      have HE := Lib.hid he
      have HV := Lib.hid hv
      have hkb : ((k : Int) == 0) = false := by rw [beq_eq_false_iff_ne]; omega
      clear ht hc he hv
      go_wp2_with fail
      refine HT.out.mono ?_
      rintro e w1 ⟨rfl, hB1, hb1⟩
      have HB1 := Lib.hid hB1
      have HW1 := Lib.hid (HW.out.trans hb1)
      clear hB1 hb1
      go_wp2
      go_ret
      exact ⟨by rw [HV.out]; rfl, by rw [HE.out]; exact HB1.out, HW1.out⟩
end Go.Proofs.YtibjogbalmbeeaaGreatDoor

namespace Go.Proofs.YtibjogbalmbeeaaGreatDoor
open Go.RowKit

theorem isHex_range (c : UInt8) (h : isHex c = true) : (48 ≤ c.toNat ∧ c.toNat ≤ 57) ∨ (97 ≤ c.toNat ∧ c.toNat ≤ 102) ∨ (65 ≤ c.toNat ∧ c.toNat ≤ 70) := by
  unfold isHex hexSet at h
  simp only [List.contains_eq_mem, List.mem_cons, List.not_mem_nil, or_false, decide_eq_true_eq] at h
  rcases h with h | h | h | h | h | h | h | h | h | h | h | h | h | h | h | h | h | h | h | h | h | h <;> subst h <;> decide
theorem hexV_lt (c : UInt8) (h : isHex c = true) : hexV c < 16 := by
  unfold hexV
  rcases isHex_range c h with h | h | h
  · rw [if_pos h.2]; omega
  · rw [if_neg (by omega), if_pos h.1]; omega
  · rw [if_neg (by omega), if_neg (by omega)]; omega

set_option maxRecDepth 100000 in
theorem value_walk (c : UInt8) (h : isHex c = true) (w : World) :
    Calls Tryz.prog 266 #[.int .u8 (c.toNat : Int)] w fun e w' => e = .returned (.int .u64 ((hexV c : Nat) : Int)) ∧ w' = w := by
  have hr := isHex_range c h
  unfold hexV
  generalize c.toNat = n at *
  rcases hr with hr | hr | hr
  · obtain ⟨h1, h2⟩ := hr
    rw [if_pos h2]
    go_enter Tryz.func266, Tryz.ntmps266
    go_wp2
    go_ret
    exact ⟨ret_int (by omega), rfl⟩
  · obtain ⟨h1, h2⟩ := hr
    rw [if_neg (by omega), if_pos h1]
    go_enter Tryz.func266, Tryz.ntmps266
    go_wp2
    go_ret
    exact ⟨ret_int (by omega), rfl⟩
  · obtain ⟨h1, h2⟩ := hr
    rw [if_neg (by omega), if_neg (by omega)]
    go_enter Tryz.func266, Tryz.ntmps266
    go_wp2
    go_ret
    exact ⟨ret_int (by omega), rfl⟩

set_option maxRecDepth 100000 in
theorem limbs_walk (d : ByteArray) (w : World) (hs : d.size ≤ 8000) (hd : ∀ j, j < d.size → isHex (by8 d j) = true) :
    Calls Tryz.prog 260 #[.string d] w fun e w' => ∃ v, e = .returned v ∧ NatAt w' v (hv (by8 d) d.size d.size) ∧ Below w.heap.size w w' := by
  obtain ⟨M, hM⟩ : ∃ M, M = d.size / 16 + 1 := ⟨_, rfl⟩
  have hMb : M ≤ 600 := by omega
  have hmk := make_u64 M (by omega)
  have em : (d.size : Int) / 16 + 1 = (M : Int) := by omega
  rw [← em] at hmk
  have hX : hv (by8 d) d.size d.size < W64 ^ M := by
    have h1 := hv_lt (by8 d) d.size d.size fun j hj => hexV_lt _ (hd _ (by omega))
    rw [pow16] at h1
    refine Nat.lt_of_lt_of_le h1 ?_
    rw [hM, Nat.pow_succ]
    refine Nat.mul_le_mul_left _ ?_
    rw [W64_eq]; exact Nat.pow_le_pow_right (by omega) (by omega)
  have HX := Lib.hid hX
  have HM := Lib.hid hM
  have HD := Lib.hid hd
  clear em hX hM hd
  go_enter Tryz.func260, Tryz.ntmps260
  go_wp2_with fail
  have hB0 := Blk.new w (List.replicate M 0)
  have hb0 : Below w.heap.size w (w.alloc (.cells (U (List.replicate M 0)) 23)) := (Below.refl _ _).alloc (Nat.le_refl _) _
  have ez : List.replicate M 0 = pad M (hv (by8 d) d.size 0) := by
    apply list_ext
    · simp [pad_length]
    · intro j hj
      simp at hj
      rw [el_pad hj]
      simp [el, hj, hv]
  rw [ez] at hB0 hb0 ⊢
  clear hmk ez
  go_loopw [13] (fun i wr => ∃ k : Nat, k ≤ d.size ∧ i = .int .i64 k ∧ Blk wr w.heap.size (pad M (hv (by8 d) d.size k)) ∧ Below w.heap.size w wr) (fun i _ => d.size - (intOf i).toNat)
  case atStart => exact ⟨0, by omega, rfl, hB0, hb0⟩
  case round =>
    obtain ⟨k, hk, rfl, hB, hb⟩ := hrel
    have HB := Lib.hid hB
    have HW := Lib.hid hb
    clear hB hb hB0 hb0
    by_cases hlt : k < d.size
    · have hm := HM.out
      have hgl := HB.out.lt
      obtain ⟨hs1, hs2, hs3⟩ := hex_step (M := M) (n := d.size) (k := k) (f := by8 d) (by omega) fun j hj => hexV_lt _ (HD.out _ (by omega))
      have hpl : k / 16 < (pad M (hv (by8 d) d.size k)).length := by rw [pad_length]; omega
      have hq1 : k / 16 < M := by omega
      have hcs := HB.out.cell hpl
      have hz := HB.out.frozen (k / 16)
      have hval := fun w1 => value_walk (by8 d (d.size - 1 - k)) (HD.out _ (by omega)) w1
      have hor := or_shl _ (hexV (by8 d (d.size - 1 - k))) (4 * (k % 16)) hs1 (by omega)
      rw [Nat.mod_eq_of_lt hs2] at hor
      have hB1 := HB.out.set (k / 16) (el (pad M (hv (by8 d) d.size k)) (k / 16) + hexV (by8 d (d.size - 1 - k)) * 2 ^ (4 * (k % 16)))
      rw [hs3] at hB1
      have hix := fun w1 => run_byte d (d.size - 1 - k) (by omega) (by omega) w1
      have e1 : ((d.size - 1 - k : Nat) : Int) = (d.size : Int) - 1 - (k : Int) := by omega
      rw [e1] at hix
      generalize el (pad M (hv (by8 d) d.size k)) (k / 16) = c1 at *
      have HOR := Lib.hid hor
      have HB1 := Lib.hid hB1
      have HVAL := Lib.hid hval
      clear hor hB1 hs1 hs2 hs3 hm e1 hpl hval
      have hdl : (d.size : Int) ≤ 8000 := by omega
      go_wp2_with fail
      have p0 : IntKind.i64.wrap ((k : Int) / 16) = (k : Int) / 16 := IntWalk.i64_in _ (by omega)
      have p7 : (k : Int).tmod 16 = (k : Int) % 16 := Int.tmod_eq_emod_of_nonneg (by omega)
      have p1 : IntKind.i64.wrap (4 * ((k : Int) % 16)) = 4 * ((k : Int) % 16) := IntWalk.i64_in _ (by omega)
      have p2 : (4 * ((k : Int) % 16)).toNat = 4 * (k % 16) := by omega
      have p3 : 0 ≤ 4 * ((k : Int) % 16) := by omega
      have p4 : ((k : Int) / 16).toNat = k / 16 := by omega
      have p5 : 0 ≤ (k : Int) / 16 := by omega
      have p6 : (k : Int) / 16 < (M : Int) := by omega
      refine wp_region_still_tail 15 (by kernel_rfl) (by kernel_rfl) ?_
      simp only [List.take_succ_cons, List.take_zero, List.drop_succ_cons, List.drop_zero]
      repeat still_step
      still_call (HVAL.out _)
      repeat still_step
      try refine wpStill_nil ?_
      change wpList _ _ _ _ _ _
      clear p7 p0 p1 p2 p3 p4 p5 p6
      go_wp2
      rw [HOR.out]
      go_roundw
      case rel => exact ⟨k + 1, by omega, by go_num, HB1.out, (HW.out.setCell (p := ⟨w.heap.size, k / 16, none⟩) (Nat.le_refl _) _).drew⟩
      case measure => simp [intOf]; omega
    · have hk2 : k = d.size := by omega
      subst hk2
      have hnorm := norm_walk (some ⟨w.heap.size, 0, none⟩) M M (pad M (hv (by8 d) d.size d.size)) wr (pad_length _ _) HB.out.read (Wd_pad _ _) (Nat.le_refl _) (by omega)
        (by rw [vl_pad_of HX.out]; have := (toL_length_le _ _).2 HX.out; omega)
      rw [vl_pad_of HX.out] at hnorm
      have HN := Lib.hid hnorm
      clear hnorm
      go_wp2_with fail
      refine HN.out.mono ?_
      rintro e w1 ⟨v1, rfl, hn1, hb1⟩
      have HN1 := Lib.hid hn1
      clear hn1
      go_wp2
      go_ret
      exact ⟨_, rfl, HN1.out, below_chain HW.out hb1⟩
end Go.Proofs.YtibjogbalmbeeaaGreatDoor

namespace Go.Proofs.YtibjogbalmbeeaaGreatDoor
open Go.RowKit

set_option maxRecDepth 100000 in
set_option maxHeartbeats 1000000 in
theorem pattern_walk_S (s : Value) (a : Nat) (x : Int) (w : World) (h : NatAt w s a) (ht : Tab64 w) (hb : blen a ≤ 100000) (hx : -4000000000000 ≤ x) (hx2 : x ≤ 4000000000000) :
    Calls Tryz.prog 240 #[.int .i64 32, s, .int .i64 x] w fun e w' => e = .returned (.tuple #[.int .u64 ((hxPat fmS a x : Nat) : Int), .int .i64 0]) ∧ Below w.heap.size w w' := by
  have H := Lib.hid h
  have HT := Lib.hid ht
  have hsz : (toL a).length ≤ 8192 := by rw [toL_length]; omega
  obtain ⟨A, c, rfl, hc, hr⟩ := h
  have hbits := bits_walk A (toL a).length c (toL a) w rfl hr (Wd_toL a) hc (by omega)
  rw [vl_toL] at hbits
  have HBits := Lib.hid hbits
  have HL0 := Lib.hid (toL_length_zero a)
  clear hr ht hbits
  by_cases hz : a = 0
  · have hl : (((toL a).length : Int) == 0) = true := by rw [beq_iff_eq]; have := HL0.out.2 hz; omega
    have HF := Lib.hid (show hxPat fmS a x = 0 by unfold hxPat; rw [if_pos (.inl hz)])
    clear hz
    go_enter Tryz.func240, Tryz.ntmps240
    go_wp2_with (go_at_call 75; refine HBits.out.mono ?_; rintro e w1 ⟨rfl, rfl⟩)
    go_ret2
    exact ⟨by rw [HF.out]; rfl, Below.refl _ _⟩
  · have hl : (((toL a).length : Int) == 0) = false := by
      have h1 : (toL a).length ≠ 0 := fun e => hz (HL0.out.1 e)
      rw [beq_eq_false_iff_ne]; omega
    have HA := Lib.hid hz
    clear hz
    by_cases hlow : (blen a : Int) + x < -2000
    · have HF := Lib.hid (show hxPat fmS a x = 0 by unfold hxPat; rw [if_pos (.inr hlow)])
      go_enter Tryz.func240, Tryz.ntmps240
      go_wp2_with (go_at_call 75; refine HBits.out.mono ?_; rintro e w1 ⟨rfl, rfl⟩)
      go_ret2
      exact ⟨by rw [HF.out]; rfl, Below.refl _ _⟩
    · have d1 : decide ((blen a : Int) + x < -2000) = false := decide_eq_false hlow
      by_cases hhi : 2000 < (blen a : Int) + x
      · have d2 : decide (2000 < (blen a : Int) + x) = true := decide_eq_true hhi
        have HF := Lib.hid (show hxPat fmS a x = near fmS false 1 2000 by unfold hxPat; rw [if_neg (fun h => h.elim HA.out hlow), if_pos hhi])
        go_enter Tryz.func240, Tryz.ntmps240
        go_wp2_with (go_at_call 75; refine HBits.out.mono ?_; rintro e w1 ⟨rfl, rfl⟩)
        refine (word_walk 1 w (by rw [W64_num]; omega)).mono ?_
        rintro e w1 ⟨s1, rfl, hn1, hb1⟩
        have HN1 := Lib.hid hn1
        obtain ⟨A1, c1, rfl, hc1, hr1⟩ := hn1
        clear hc1 hr1
        go_wp2_with fail
        refine (make_walk false _ 1 2000 w1 HN1.out (HT.out.below hb1) (by decide) (by simp) (by omega) (by omega) (by rw [tz_one]; omega) (by rw [tz_one]; omega)).mono ?_
        rintro e w2 ⟨s2, rfl, hn2, hb2⟩
        rw [show dexp 1 2000 = 2000 by unfold dexp; rw [tz_one]; rfl]
        rw [tz_one, show 1 / 2 ^ 0 = 1 from rfl] at hn2
        have hw2 := below_chain hb1 hb2
        have HN2 := Lib.hid hn2
        obtain ⟨A2, c2, rfl, hc2, hr2⟩ := hn2
        clear hc2 hr2
        go_wp2_with fail
        have hb3 := below_alloc' w2 (.cells #[.bool false, .slice A2 (toL 1).length c2, .int .i64 2000] 86)
        refine (nearest_walk_S false _ 1 2000 _ (HN2.out.below hb3) (HT.out.below (below_chain hw2 hb3)) (by decide) (by simp) (by omega) (by omega) (fun _ => rfl) (by omega)).mono ?_
        rintro e w4 ⟨rfl, hb4⟩
        go_wp2
        go_ret2
        exact ⟨by rw [HF.out]; rfl, below_chain (below_chain hw2 hb3) hb4⟩
      · have d2 : decide (2000 < (blen a : Int) + x) = false := decide_eq_false hhi
        have HF := Lib.hid (show hxPat fmS a x = near fmS false (a / 2 ^ tz a) (x + tz a) by unfold hxPat; rw [if_neg (fun h => h.elim HA.out hlow), if_neg hhi])
        have htz := tz_le HA.out
        have hop := odd_part HA.out
        have HOP := Lib.hid hop
        clear hop
        go_enter Tryz.func240, Tryz.ntmps240
        go_wp2_with (go_at_call 75; refine HBits.out.mono ?_; rintro e w1 ⟨rfl, rfl⟩)
        refine (make_walk false _ a x w H.out HT.out (by omega) (by simp) (by omega) (by omega) (fun _ => by omega) (fun _ => by omega)).mono ?_
        rintro e w2 ⟨s2, rfl, hn2, hb2⟩
        rw [show dexp a x = x + tz a by unfold dexp; rw [if_neg HA.out]]
        have HN2 := Lib.hid hn2
        obtain ⟨A2, c2, rfl, hc2, hr2⟩ := hn2
        clear hc2 hr2
        go_wp2_with fail
        have hb3 := below_alloc' w2 (.cells #[.bool false, .slice A2 (toL (a / 2 ^ tz a)).length c2, .int .i64 (x + tz a)] 86)
        refine (nearest_walk_S false _ (a / 2 ^ tz a) (x + tz a) _ (HN2.out.below hb3) (HT.out.below (below_chain hb2 hb3)) (by have := HOP.out.2.1; omega) (by simp) (by omega) (by omega) (fun _ => HOP.out.1) (fun e => absurd e HOP.out.2.2)).mono ?_
        rintro e w4 ⟨rfl, hb4⟩
        go_wp2
        go_ret2
        exact ⟨by rw [HF.out]; rfl, below_chain (below_chain hb2 hb3) hb4⟩

set_option maxRecDepth 100000 in
set_option maxHeartbeats 1000000 in
theorem pattern_walk_D (s : Value) (a : Nat) (x : Int) (w : World) (h : NatAt w s a) (ht : Tab64 w) (hb : blen a ≤ 100000) (hx : -4000000000000 ≤ x) (hx2 : x ≤ 4000000000000) :
    Calls Tryz.prog 240 #[.int .i64 64, s, .int .i64 x] w fun e w' => e = .returned (.tuple #[.int .u64 ((hxPat fmD a x : Nat) : Int), .int .i64 0]) ∧ Below w.heap.size w w' := by
  have H := Lib.hid h
  have HT := Lib.hid ht
  have hsz : (toL a).length ≤ 8192 := by rw [toL_length]; omega
  obtain ⟨A, c, rfl, hc, hr⟩ := h
  have hbits := bits_walk A (toL a).length c (toL a) w rfl hr (Wd_toL a) hc (by omega)
  rw [vl_toL] at hbits
  have HBits := Lib.hid hbits
  have HL0 := Lib.hid (toL_length_zero a)
  clear hr ht hbits
  by_cases hz : a = 0
  · have hl : (((toL a).length : Int) == 0) = true := by rw [beq_iff_eq]; have := HL0.out.2 hz; omega
    have HF := Lib.hid (show hxPat fmD a x = 0 by unfold hxPat; rw [if_pos (.inl hz)])
    clear hz
    go_enter Tryz.func240, Tryz.ntmps240
    go_wp2_with (go_at_call 75; refine HBits.out.mono ?_; rintro e w1 ⟨rfl, rfl⟩)
    go_ret2
    exact ⟨by rw [HF.out]; rfl, Below.refl _ _⟩
  · have hl : (((toL a).length : Int) == 0) = false := by
      have h1 : (toL a).length ≠ 0 := fun e => hz (HL0.out.1 e)
      rw [beq_eq_false_iff_ne]; omega
    have HA := Lib.hid hz
    clear hz
    by_cases hlow : (blen a : Int) + x < -2000
    · have HF := Lib.hid (show hxPat fmD a x = 0 by unfold hxPat; rw [if_pos (.inr hlow)])
      go_enter Tryz.func240, Tryz.ntmps240
      go_wp2_with (go_at_call 75; refine HBits.out.mono ?_; rintro e w1 ⟨rfl, rfl⟩)
      go_ret2
      exact ⟨by rw [HF.out]; rfl, Below.refl _ _⟩
    · have d1 : decide ((blen a : Int) + x < -2000) = false := decide_eq_false hlow
      by_cases hhi : 2000 < (blen a : Int) + x
      · have d2 : decide (2000 < (blen a : Int) + x) = true := decide_eq_true hhi
        have HF := Lib.hid (show hxPat fmD a x = near fmD false 1 2000 by unfold hxPat; rw [if_neg (fun h => h.elim HA.out hlow), if_pos hhi])
        go_enter Tryz.func240, Tryz.ntmps240
        go_wp2_with (go_at_call 75; refine HBits.out.mono ?_; rintro e w1 ⟨rfl, rfl⟩)
        refine (word_walk 1 w (by rw [W64_num]; omega)).mono ?_
        rintro e w1 ⟨s1, rfl, hn1, hb1⟩
        have HN1 := Lib.hid hn1
        obtain ⟨A1, c1, rfl, hc1, hr1⟩ := hn1
        clear hc1 hr1
        go_wp2_with fail
        refine (make_walk false _ 1 2000 w1 HN1.out (HT.out.below hb1) (by decide) (by simp) (by omega) (by omega) (by rw [tz_one]; omega) (by rw [tz_one]; omega)).mono ?_
        rintro e w2 ⟨s2, rfl, hn2, hb2⟩
        rw [show dexp 1 2000 = 2000 by unfold dexp; rw [tz_one]; rfl]
        rw [tz_one, show 1 / 2 ^ 0 = 1 from rfl] at hn2
        have hw2 := below_chain hb1 hb2
        have HN2 := Lib.hid hn2
        obtain ⟨A2, c2, rfl, hc2, hr2⟩ := hn2
        clear hc2 hr2
        go_wp2_with fail
        have hb3 := below_alloc' w2 (.cells #[.bool false, .slice A2 (toL 1).length c2, .int .i64 2000] 86)
        refine (nearest_walk_D false _ 1 2000 _ (HN2.out.below hb3) (HT.out.below (below_chain hw2 hb3)) (by decide) (by simp) (by omega) (by omega) (fun _ => rfl) (by omega)).mono ?_
        rintro e w4 ⟨rfl, hb4⟩
        go_wp2
        go_ret2
        exact ⟨by rw [HF.out]; rfl, below_chain (below_chain hw2 hb3) hb4⟩
      · have d2 : decide (2000 < (blen a : Int) + x) = false := decide_eq_false hhi
        have HF := Lib.hid (show hxPat fmD a x = near fmD false (a / 2 ^ tz a) (x + tz a) by unfold hxPat; rw [if_neg (fun h => h.elim HA.out hlow), if_neg hhi])
        have htz := tz_le HA.out
        have hop := odd_part HA.out
        have HOP := Lib.hid hop
        clear hop
        go_enter Tryz.func240, Tryz.ntmps240
        go_wp2_with (go_at_call 75; refine HBits.out.mono ?_; rintro e w1 ⟨rfl, rfl⟩)
        refine (make_walk false _ a x w H.out HT.out (by omega) (by simp) (by omega) (by omega) (fun _ => by omega) (fun _ => by omega)).mono ?_
        rintro e w2 ⟨s2, rfl, hn2, hb2⟩
        rw [show dexp a x = x + tz a by unfold dexp; rw [if_neg HA.out]]
        have HN2 := Lib.hid hn2
        obtain ⟨A2, c2, rfl, hc2, hr2⟩ := hn2
        clear hc2 hr2
        go_wp2_with fail
        have hb3 := below_alloc' w2 (.cells #[.bool false, .slice A2 (toL (a / 2 ^ tz a)).length c2, .int .i64 (x + tz a)] 86)
        refine (nearest_walk_D false _ (a / 2 ^ tz a) (x + tz a) _ (HN2.out.below hb3) (HT.out.below (below_chain hb2 hb3)) (by have := HOP.out.2.1; omega) (by simp) (by omega) (by omega) (fun _ => HOP.out.1) (fun e => absurd e HOP.out.2.2)).mono ?_
        rintro e w4 ⟨rfl, hb4⟩
        go_wp2
        go_ret2
        exact ⟨by rw [HF.out]; rfl, below_chain (below_chain hb2 hb3) hb4⟩

end Go.Proofs.YtibjogbalmbeeaaGreatDoor
