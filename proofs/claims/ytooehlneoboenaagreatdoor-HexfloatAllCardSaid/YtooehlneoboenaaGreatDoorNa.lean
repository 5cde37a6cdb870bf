/- Walks of nat: trim, Form, told, Word, Bits, Trail. -/
import Derived.Test.YtooehlneoboenaaGreatDoorWa
import Derived.Test.YtooehlneoboenaaGreatDoorPb
namespace Go.Proofs.YtooehlneoboenaaGreatDoor
open Go.RowKit

set_option maxRecDepth 100000 in
theorem trim_walk (A : Option Addr) (n c : Nat) (l : List Nat) (w : World) (hn : l.length = n) (hr : RdU w A l) (hc : n ≤ c) (hs : n ≤ 100000) :
    Calls Tryz.prog 79 #[.slice A n c] w fun e w' => e = .returned (.slice A (trimTo l l.length).length c) ∧ w = w' := by
  subst hn
  have HR := Lib.hid hr
  clear hr
  go_enter Tryz.func79, Tryz.ntmps79
  go_wp2
  go_loop [3] (fun n => ∃ k : Nat, k ≤ l.length ∧ n = .int .i64 k ∧ trimTo l l.length = trimTo l k) (fun n => (intOf n).toNat)
  case atStart => exact ⟨l.length, Nat.le_refl _, rfl, rfl⟩
  case round =>
    obtain ⟨k, hk, rfl, hT⟩ := hrel
    have HT := Lib.hid hT
    clear hT
    cases k with
    | zero =>
      go_wp2
      go_ret
      exact ⟨by rw [HT.out]; rfl, rfl⟩
    | succ k =>
      obtain ⟨ad, rfl, hc0⟩ := HR.out (by omega)
      have hck := hc0 k (by omega)
      clear hc0
      go_wp2
      · have hz : ((el l k : Nat) : Int) = 0 := by simpa using ‹(((el l k : Nat) : Int) == 0) = true›
        go_round
        case rel => exact ⟨k, by omega, rfl, by rw [HT.out, trimTo, if_pos (by omega)]⟩
        case measure => simp [intOf]
      · have hz : ¬ ((el l k : Nat) : Int) = 0 := by simpa using ‹(((el l k : Nat) : Int) == 0) = false›
        have e : (trimTo l l.length).length = k + 1 := by
          rw [HT.out, trimTo, if_neg (by omega)]
          simp only [List.length_take]
          exact Nat.min_eq_left hk
        go_ret
        exact ⟨by rw [e]; rfl, rfl⟩

set_option maxRecDepth 100000 in
theorem form_walk (v : Value) (a : Nat) (w : World) (h : NatAt w v a) (hs : (toL a).length ≤ 8192) :
    Calls Tryz.prog 96 #[v] w fun e w' => e = .returned (.bool true) ∧ w = w' := by
  obtain ⟨A, c, rfl, hc, hr⟩ := h
  have hlast := @toL_last a
  have h0 := toL_length_zero a
  generalize toL a = l at *
  by_cases hz : a = 0
  · have h1 : l.length = 0 := h0.2 hz
    have h2 : ((l.length : Int) == 0) = true := by simp [h1]
    clear h1 hr hlast h0
    go_enter Tryz.func96, Tryz.ntmps96
    go_wp2
    go_ret
    exact ⟨rfl, rfl⟩
  · have hp : 0 < l.length := by have := fun e => hz (h0.1 e); omega
    obtain ⟨ad, rfl, hc0⟩ := hr hp
    have hck := hc0 (l.length - 1) (by omega)
    have hne : (((el l (l.length - 1) : Nat) : Int) != 0) = true := by have := hlast hz; rw [bne_iff_ne]; omega
    have h2 : ((l.length : Int) == 0) = false := by rw [beq_eq_false_iff_ne]; omega
    clear hc0 hlast h0
    go_enter Tryz.func96, Tryz.ntmps96
    go_wp2
    go_ret
    exact ⟨rfl, rfl⟩

set_option maxRecDepth 100000 in
theorem told_walk (A : Option Addr) (n c : Nat) (l : List Nat) (w : World) (hn : l.length = n) (hr : RdU w A l) (hw : Wd l) (hc : n ≤ c) (hs : n ≤ 100000) (hv : (toL (vl l)).length ≤ 8192) :
    Calls Tryz.prog 98 #[.slice A n c] w fun e w' => ∃ v, e = .returned (.tuple #[v, .int .i64 0]) ∧ NatAt w v (vl l) ∧ w = w' := by
  subst hn
  have ht : trimTo l l.length = toL (vl l) := by rw [trimTo_eq hw _ (Nat.le_refl _), List.take_length]
  have hn : NatAt w (.slice A (toL (vl l)).length c) (vl l) := by
    refine ⟨A, c, rfl, ?_, ?_⟩
    · rw [← ht, trimTo_take _ (Nat.le_refl _)]; simp; omega
    · rw [← ht, trimTo_take _ (Nat.le_refl _)]; exact hr.take _
  have hcal := trim_walk A l.length c l w rfl hr hc hs
  rw [ht] at hcal
  generalize toL (vl l) = t at *
  clear ht hr
  have HN := Lib.hid hn
  have HC := Lib.hid hcal
  clear hn hcal
  go_enter Tryz.func98, Tryz.ntmps98
  go_wp2_with (go_at_call 79; refine HC.out.mono ?_; rintro e w' ⟨rfl, rfl⟩)
  go_ret2
  exact ⟨_, rfl, HN.out, rfl⟩

set_option maxRecDepth 100000 in
theorem word_walk (x : Nat) (w : World) (hx : x < W64) :
    Calls Tryz.prog 32 #[.int .u64 x] w fun e w' => ∃ v, e = .returned v ∧ NatAt w' v x ∧ Below w.heap.size w w' := by
  by_cases h : x = 0
  · subst h
    go_enter Tryz.func32, Tryz.ntmps32
    go_wp2
    go_ret
    exact ⟨_, rfl, NatAt.nil _, Below.refl _ _⟩
  · have h1 : ((x : Int) == 0) = false := by rw [beq_eq_false_iff_ne]; omega
    go_enter Tryz.func32, Tryz.ntmps32
    go_wp2
    have hl : toL x = [x] := by rw [toL_pos h, Nat.mod_eq_of_lt hx, Nat.div_eq_of_lt hx, toL_zero]
    have hb := (hl ▸ Blk.new w (toL x) : Blk (w.alloc (.cells (U [x]) 25)) w.heap.size [x])
    go_ret
    refine ⟨_, rfl, ?_, (Below.refl _ _).alloc (Nat.le_refl _) _⟩
    exact ⟨_, 1, by rw [hl]; rfl, by rw [hl]; simp, by rw [hl]; exact hb.read⟩

set_option maxRecDepth 100000 in
theorem bits_walk (A : Option Addr) (n c : Nat) (l : List Nat) (w : World) (hn : l.length = n) (hr : RdU w A l) (hw : Wd l) (hc : n ≤ c) (hs : n ≤ 100000) :
    Calls Tryz.prog 54 #[.slice A n c] w fun e w' => e = .returned (.int .i64 (blen (vl l))) ∧ w = w' := by
  subst hn
  have ht : trimTo l l.length = toL (vl l) := by rw [trimTo_eq hw _ (Nat.le_refl _), List.take_length]
  have hcal := trim_walk A l.length c l w rfl hr hc hs
  have hrd : RdU w A (toL (vl l)) := by rw [← ht, trimTo_take _ (Nat.le_refl _)]; exact hr.take _
  have hle : (toL (vl l)).length ≤ l.length := by rw [← ht, trimTo_take _ (Nat.le_refl _)]; simp; omega
  rw [ht] at hcal
  have h0 := toL_length_zero (vl l)
  have hb := @blen_limbs (vl l)
  have hwd := Wd_toL (vl l)
  generalize vl l = a at *
  generalize toL a = t at *
  clear ht hr
  have HC := Lib.hid hcal
  clear hcal
  by_cases hz : a = 0
  · have h1 : t.length = 0 := h0.2 hz
    have h2 : ((t.length : Int) == 0) = true := by simp [h1]
    subst hz
    clear h1 hrd h0 hb
    go_enter Tryz.func54, Tryz.ntmps54
    go_wp2_with (go_at_call 79; refine HC.out.mono ?_; rintro e w' ⟨rfl, rfl⟩)
    go_ret
    exact ⟨rfl, rfl⟩
  · have hp : 0 < t.length := by have := fun e => hz (h0.1 e); omega
    obtain ⟨ad, rfl, hc0⟩ := hrd hp
    have hck := hc0 (t.length - 1) (by omega)
    have h2 : ((t.length : Int) == 0) = false := by rw [beq_eq_false_iff_ne]; omega
    have hlt := el_lt hwd (t.length - 1)
    have hbl : Lib.bitLen (el t (t.length - 1)) = blen (el t (t.length - 1)) := bitLen_blen hlt
    have hb2 : blen (el t (t.length - 1)) ≤ 64 := blen_le.2 (by rw [← W64_eq]; exact hlt)
    have HB := Lib.hid (hb hz)
    have HL := Lib.hid hbl
    have hx : (el t (t.length - 1) : Int) ≤ 18446744073709551615 := by rw [W64_eq] at hlt; omega
    clear hc0 h0 hb hbl hlt hwd
    generalize el t (t.length - 1) = x at *
    go_enter Tryz.func54, Tryz.ntmps54
    go_wp2_with (first | (go_at_call 79; refine HC.out.mono ?_; rintro e w' ⟨rfl, rfl⟩) | (go_at_call 17; refine (Tryz.bits_Len64 _ _ (by omega) hx).mono ?_; rintro e w' ⟨rfl, rfl⟩; simp only [Int.toNat_natCast]; rw [HL.out]))
    go_ret
    exact ⟨by rw [HB.out]; simp; omega, rfl⟩
end Go.Proofs.YtooehlneoboenaaGreatDoor
