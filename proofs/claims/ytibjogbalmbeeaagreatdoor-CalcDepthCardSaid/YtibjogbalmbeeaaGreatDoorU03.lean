/- Walks of nat: trim, Form, told, Word, Bits, Trail. · Walks of nat: Trail, Bit. · Walks of nat: Shr. · Walks of nat: Shl. · Walks of nat: Norm, Add. -/
import Derived.Test.YtibjogbalmbeeaaGreatDoorU02
import Derived.Test.YtibjogbalmbeeaaGreatDoorU01

namespace Go.Proofs.YtibjogbalmbeeaaGreatDoor
open Go.RowKit

set_option maxRecDepth 100000 in
theorem trim_walk (A : Option Addr) (n c : Nat) (l : List Nat) (w : World) (hn : l.length = n) (hr : RdU w A l) (hc : n ≤ c) (hs : n ≤ 100000) :
    Calls Tryz.prog 87 #[.slice A n c] w fun e w' => e = .returned (.slice A (trimTo l l.length).length c) ∧ w = w' := by
  subst hn
  have HR := Lib.hid hr
  clear hr
  go_enter Tryz.func87, Tryz.ntmps87
  go_wp2
  go_loop [3] (fun n => ∃ k : Nat, k ≤ l.length ∧ n = .int .i64 k ∧ trimTo l l.length = trimTo l k) (fun n => (intOf n).toNat)
  case atStart => exact ⟨l.length, Nat.le_refl _, rfl, rfl⟩
  case round =>
    obtain ⟨k, hk, rfl, hT⟩ := hrel
    have HT := Lib.hid hT
    clear hT
    cases k with
    | zero =>
      go_wp2
      go_ret
      exact ⟨by rw [HT.out]; rfl, rfl⟩
    | succ k =>
      obtain ⟨ad, rfl, hc0⟩ := HR.out (by omega)
      have hck := hc0 k (by omega)
      clear hc0
      go_wp2
      · have hz : ((el l k : Nat) : Int) = 0 := by simpa using ‹(((el l k : Nat) : Int) == 0) = true›
        go_round
        case rel => exact ⟨k, by omega, rfl, by rw [HT.out, trimTo, if_pos (by omega)]⟩
        case measure => simp [intOf]
      · have hz : ¬ ((el l k : Nat) : Int) = 0 := by simpa using ‹(((el l k : Nat) : Int) == 0) = false›
        have e : (trimTo l l.length).length = k + 1 := by
          rw [HT.out, trimTo, if_neg (by omega)]
          simp only [List.length_take]
          exact Nat.min_eq_left hk
        go_ret
        exact ⟨by rw [e]; rfl, rfl⟩

set_option maxRecDepth 100000 in
theorem form_walk (v : Value) (a : Nat) (w : World) (h : NatAt w v a) (hs : (toL a).length ≤ 8192) :
    Calls Tryz.prog 78 #[v] w fun e w' => e = .returned (.bool true) ∧ w = w' := by
  obtain ⟨A, c, rfl, hc, hr⟩ := h
  have hlast := @toL_last a
  have h0 := toL_length_zero a
  generalize toL a = l at *
  by_cases hz : a = 0
  · have h1 : l.length = 0 := h0.2 hz
    have h2 : ((l.length : Int) == 0) = true := by simp [h1]
    clear h1 hr hlast h0
    go_enter Tryz.func78, Tryz.ntmps78
    go_wp2
    go_ret
    exact ⟨rfl, rfl⟩
  · have hp : 0 < l.length := by have := fun e => hz (h0.1 e); omega
    obtain ⟨ad, rfl, hc0⟩ := hr hp
    have hck := hc0 (l.length - 1) (by omega)
    have hne : (((el l (l.length - 1) : Nat) : Int) != 0) = true := by have := hlast hz; rw [bne_iff_ne]; omega
    have h2 : ((l.length : Int) == 0) = false := by rw [beq_eq_false_iff_ne]; omega
    clear hc0 hlast h0
    go_enter Tryz.func78, Tryz.ntmps78
    go_wp2
    go_ret
    exact ⟨rfl, rfl⟩

set_option maxRecDepth 100000 in
theorem told_walk (A : Option Addr) (n c : Nat) (l : List Nat) (w : World) (hn : l.length = n) (hr : RdU w A l) (hw : Wd l) (hc : n ≤ c) (hs : n ≤ 100000) (hv : (toL (vl l)).length ≤ 8192) :
    Calls Tryz.prog 86 #[.slice A n c] w fun e w' => ∃ v, e = .returned (.tuple #[v, .int .i64 0]) ∧ NatAt w v (vl l) ∧ w = w' := by
  subst hn
  have ht : trimTo l l.length = toL (vl l) := by rw [trimTo_eq hw _ (Nat.le_refl _), List.take_length]
  have hn : NatAt w (.slice A (toL (vl l)).length c) (vl l) := by
    refine ⟨A, c, rfl, ?_, ?_⟩
    · rw [← ht, trimTo_take _ (Nat.le_refl _)]; simp; omega
    · rw [← ht, trimTo_take _ (Nat.le_refl _)]; exact hr.take _
  have hcal := trim_walk A l.length c l w rfl hr hc hs
  rw [ht] at hcal
  generalize toL (vl l) = t at *
  clear ht hr
  have HN := Lib.hid hn
  have HC := Lib.hid hcal
  clear hn hcal
  go_enter Tryz.func86, Tryz.ntmps86
  go_wp2_with (go_at_call 87; refine HC.out.mono ?_; rintro e w' ⟨rfl, rfl⟩)
  go_ret2
  exact ⟨_, rfl, HN.out, rfl⟩

set_option maxRecDepth 100000 in
theorem word_walk (x : Nat) (w : World) (hx : x < W64) :
    Calls Tryz.prog 40 #[.int .u64 x] w fun e w' => ∃ v, e = .returned v ∧ NatAt w' v x ∧ Below w.heap.size w w' := by
  by_cases h : x = 0
  · subst h
    go_enter Tryz.func40, Tryz.ntmps40
    go_wp2
    go_ret
    exact ⟨_, rfl, NatAt.nil _, Below.refl _ _⟩
  · have h1 : ((x : Int) == 0) = false := by rw [beq_eq_false_iff_ne]; omega
    go_enter Tryz.func40, Tryz.ntmps40
    go_wp2
    have hl : toL x = [x] := by rw [toL_pos h, Nat.mod_eq_of_lt hx, Nat.div_eq_of_lt hx, toL_zero]
    have hb := (hl ▸ Blk.new w (toL x) : Blk (w.alloc (.cells (U [x]) 23)) w.heap.size [x])
    go_ret
    refine ⟨_, rfl, ?_, (Below.refl _ _).alloc (Nat.le_refl _) _⟩
    exact ⟨_, 1, by rw [hl]; rfl, by rw [hl]; simp, by rw [hl]; exact hb.read⟩

set_option maxRecDepth 100000 in
theorem bits_walk (A : Option Addr) (n c : Nat) (l : List Nat) (w : World) (hn : l.length = n) (hr : RdU w A l) (hw : Wd l) (hc : n ≤ c) (hs : n ≤ 100000) :
    Calls Tryz.prog 75 #[.slice A n c] w fun e w' => e = .returned (.int .i64 (blen (vl l))) ∧ w = w' := by
  subst hn
  have ht : trimTo l l.length = toL (vl l) := by rw [trimTo_eq hw _ (Nat.le_refl _), List.take_length]
  have hcal := trim_walk A l.length c l w rfl hr hc hs
  have hrd : RdU w A (toL (vl l)) := by rw [← ht, trimTo_take _ (Nat.le_refl _)]; exact hr.take _
  have hle : (toL (vl l)).length ≤ l.length := by rw [← ht, trimTo_take _ (Nat.le_refl _)]; simp; omega
  rw [ht] at hcal
  have h0 := toL_length_zero (vl l)
  have hb := @blen_limbs (vl l)
  have hwd := Wd_toL (vl l)
  generalize vl l = a at *
  generalize toL a = t at *
  clear ht hr
  have HC := Lib.hid hcal
  clear hcal
  by_cases hz : a = 0
  · have h1 : t.length = 0 := h0.2 hz
    have h2 : ((t.length : Int) == 0) = true := by simp [h1]
    subst hz
    clear h1 hrd h0 hb
    go_enter Tryz.func75, Tryz.ntmps75
    go_wp2_with (go_at_call 87; refine HC.out.mono ?_; rintro e w' ⟨rfl, rfl⟩)
    go_ret
    exact ⟨rfl, rfl⟩
  · have hp : 0 < t.length := by have := fun e => hz (h0.1 e); omega
    obtain ⟨ad, rfl, hc0⟩ := hrd hp
    have hck := hc0 (t.length - 1) (by omega)
    have h2 : ((t.length : Int) == 0) = false := by rw [beq_eq_false_iff_ne]; omega
    have hlt := el_lt hwd (t.length - 1)
    have hbl : Lib.bitLen (el t (t.length - 1)) = blen (el t (t.length - 1)) := bitLen_blen hlt
    have hb2 : blen (el t (t.length - 1)) ≤ 64 := blen_le.2 (by rw [← W64_eq]; exact hlt)
    have HB := Lib.hid (hb hz)
    have HL := Lib.hid hbl
    have hx : (el t (t.length - 1) : Int) ≤ 18446744073709551615 := by rw [W64_eq] at hlt; omega
    clear hc0 h0 hb hbl hlt hwd
    generalize el t (t.length - 1) = x at *
    go_enter Tryz.func75, Tryz.ntmps75
    go_wp2_with (first | (go_at_call 87; refine HC.out.mono ?_; rintro e w' ⟨rfl, rfl⟩) | (go_at_call 21; refine (Tryz.bits_Len64 _ _ (by omega) hx).mono ?_; rintro e w' ⟨rfl, rfl⟩; simp only [Int.toNat_natCast]; rw [HL.out]))
    go_ret
    exact ⟨by rw [HB.out]; simp; omega, rfl⟩
end Go.Proofs.YtibjogbalmbeeaaGreatDoor

namespace Go.Proofs.YtibjogbalmbeeaaGreatDoor
open Go.RowKit

set_option maxRecDepth 100000 in
theorem trail_walk (v : Value) (a : Nat) (w : World) (h : NatAt w v a) (hs : (toL a).length ≤ 100000) (ht : Tab64 w) :
    Calls Tryz.prog 157 #[v] w fun e w' => e = .returned (.int .i64 (tz a)) ∧ w = w' := by
  obtain ⟨A, c, rfl, hc, hr⟩ := h
  have hwd := Wd_toL a
  have hva := vl_toL a
  have h0 := toL_length_zero a
  generalize toL a = l at *
  have HR := Lib.hid hr
  have HV := Lib.hid hva
  have H0 := Lib.hid h0
  have HW := Lib.hid hwd
  have HT := Lib.hid ht
  clear hr hva h0 hwd ht
  go_enter Tryz.func157, Tryz.ntmps157
  go_wp2
  go_loop [6] (fun n => ∃ k : Nat, k ≤ l.length ∧ n = .int .i64 k ∧ ∀ j, j < k → el l j = 0) (fun n => l.length - (intOf n).toNat)
  case atStart => exact ⟨0, by omega, rfl, fun j hj => by omega⟩
  case round =>
    obtain ⟨k, hk, rfl, hT⟩ := hrel
    have HZ := Lib.hid hT
    clear hT
    by_cases hlt : k < l.length
    · obtain ⟨ad, rfl, hc0⟩ := HR.out (by omega)
      have hck := hc0 k (by omega)
      clear hc0
      have hlt64 := el_lt HW.out k
      have hx : el l k < 18446744073709551616 := by rw [W64_eq] at hlt64; omega
      have HL := Lib.hid hlt64
      clear hlt64
      by_cases hz : el l k = 0
      · have hb : (((el l k : Nat) : Int) != 0) = false := by rw [bne_eq_false_iff_eq]; omega
        have HZ2 := Lib.hid hz
        clear hz
        go_wp2
        go_round
        case rel => exact ⟨k + 1, by omega, by go_num, fun j hj => by by_cases e : j = k; (· rw [e]; exact HZ2.out); (· exact HZ.out j (by omega))⟩
        case measure => simp [intOf]; omega
      · have hb : (((el l k : Nat) : Int) != 0) = true := by rw [bne_iff_ne]; omega
        obtain ⟨hq, hq2⟩ := ctz_tz HL.out hz
        have HF := Lib.hid (show tz a = 64 * k + tz (el l k) by rw [← HV.out]; exact tz_limbs HW.out hlt HZ.out hz)
        have HQ := Lib.hid hq
        clear hq
        go_wp2_with (go_at_call 163; refine (Any7.bits_TrailingZeros64 Tryz.lays7_29 _ hx _ ?_).mono ?_; (exact fun _ => HT.out); rintro e w' ⟨rfl, rfl⟩; rw [HQ.out])
        go_ret
        exact ⟨by rw [HF.out]; simp, rfl⟩
    · have HF := Lib.hid (show tz a = 0 by
        have e : k = l.length := by omega
        have : vl l = 0 := vl_zero_of fun j hj => HZ.out j (by omega)
        rw [← HV.out, this, tz_zero])
      go_wp2
      go_ret
      exact ⟨by rw [HF.out]; rfl, rfl⟩

theorem testBit_limb (a i : Nat) : a.testBit i = (((a / W64 ^ (i / 64) % W64) / 2 ^ (i % 64)) % 2 == 1) := by
  rw [W64_pow, W64_eq]
  have e : a.testBit i = (a / 2 ^ (64 * (i / 64)) % 2 ^ 64).testBit (i % 64) := by
    rw [Nat.testBit_mod_two_pow, Nat.testBit_div_two_pow]
    have h1 : i % 64 < 64 := Nat.mod_lt _ (by omega)
    have h2 : i % 64 + 64 * (i / 64) = i := Nat.mod_add_div i 64
    simp [h1, h2]
  rw [e, Nat.testBit_eq_decide_div_mod_eq]
  generalize (a / 2 ^ (64 * (i / 64)) % 2 ^ 64) / 2 ^ (i % 64) % 2 = z
  by_cases h : z = 1 <;> simp [h]
theorem testBit_word (x k : Nat) (hx : x < W64) : (bits BinOp.and IntKind.u64 ((x : Nat) / 2 ^ k : Int) 1 == 1) = ((x / 2 ^ k) % 2 == 1) := by
  have e : ((x : Int) / 2 ^ k) = ((x / 2 ^ k : Nat) : Int) := by simp
  have hlt : x / 2 ^ k < 2 ^ 64 := Nat.lt_of_le_of_lt (Nat.div_le_self _ _) (by rw [← W64_eq]; exact hx)
  rw [e]
  clear e
  generalize x / 2 ^ k = y at *
  rw [and_one_u64 _ (by omega) (by omega)]
  rw [Bool.eq_iff_iff]
  simp
  omega

/-- The bit of value 2^i (a name of our own, so that the walk leaves it alone). -/
def tb (a i : Nat) : Bool := a.testBit i

set_option maxRecDepth 100000 in
theorem bit_walk (v : Value) (a : Nat) (i : Int) (w : World) (h : NatAt w v a) (hs : (toL a).length ≤ 100000) (hi : -1 ≤ i) (hi2 : i ≤ 100000000) :
    Calls Tryz.prog 44 #[v, .int .i64 i] w fun e w' => e = .returned (.bool (decide (0 ≤ i) && tb a i.toNat)) ∧ w = w' := by
  obtain ⟨A, c, rfl, hc, hr⟩ := h
  have hel := el_toL a
  have h0 := toL_length_le a
  have hwd := Wd_toL a
  generalize toL a = l at *
  by_cases hneg : i < 0
  · have e : i = -1 := by omega
    subst e
    clear hr h0 hel
    go_enter Tryz.func44, Tryz.ntmps44
    go_wp2
    go_ret
    exact ⟨by simp, rfl⟩
  obtain ⟨n, rfl⟩ := Int.eq_ofNat_of_zero_le (show 0 ≤ i by omega)
  have ht := testBit_limb a n
  rw [← hel] at ht
  have hx := el_lt hwd (n / 64)
  have hw := testBit_word (el l (n / 64)) (n % 64) hx
  rw [← ht] at hw
  have HW := Lib.hid hw
  have HT := Lib.hid ht
  clear ht hw hx
  by_cases hlt : n / 64 < l.length
  · obtain ⟨ad, rfl, hc0⟩ := hr (by omega)
    have hck := hc0 (n / 64) (by omega)
    clear hc0 h0 hel
    go_enter Tryz.func44, Tryz.ntmps44
    go_wp2
    go_ret
    refine ⟨?_, rfl⟩
    simp only [tb]
    rw [← HW.out]
    simp
  · have he : el l (n / 64) = 0 := el_out (by omega)
    have HF := Lib.hid (show a.testBit n = false by rw [HT.out, he]; simp)
    clear h0 hel hr he
    go_enter Tryz.func44, Tryz.ntmps44
    go_wp2
    go_ret
    exact ⟨by simp only [tb]; rw [HF.out]; simp, rfl⟩
end Go.Proofs.YtibjogbalmbeeaaGreatDoor

namespace Go.Proofs.YtibjogbalmbeeaaGreatDoor
open Go.RowKit

theorem shr_lt {a n m len : Nat} (h : a < W64 ^ len) (hm : len = n / 64 + m) : a / 2 ^ n < W64 ^ m := by
  rw [Nat.div_lt_iff_lt_mul (Nat.two_pow_pos n)]
  refine Nat.lt_of_lt_of_le h ?_
  rw [W64_pow, W64_pow, ← Nat.pow_add]
  exact Nat.pow_le_pow_right (by omega) (by omega)

set_option maxRecDepth 100000 in
theorem shr_walk (v : Value) (a : Nat) (i : Int) (w : World) (h : NatAt w v a) (hs : (toL a).length ≤ 8192) (hi : 0 ≤ i) (hi2 : i ≤ 100000000) :
    Calls Tryz.prog 84 #[v, .int .i64 i] w fun e w' => ∃ v, e = .returned (.tuple #[v, .int .i64 0]) ∧ NatAt w' v (a / 2 ^ i.toNat) ∧ Below w.heap.size w w' := by
  obtain ⟨n, rfl⟩ := Int.eq_ofNat_of_zero_le hi
  have hform := form_walk v a w h hs
  obtain ⟨A, c, rfl, hc, hr⟩ := h
  have hel := el_toL a
  have hlen := toL_length_le a
  have hwd := Wd_toL a
  generalize toL a = l at *
  have HF := Lib.hid hform
  clear hform
  have hn0 : ¬ (n : Int) < 0 := by omega
  have halt := (hlen l.length).1 (Nat.le_refl _)
  by_cases hbig : l.length ≤ n / 64
  · have HZ := Lib.hid (show a / 2 ^ n = 0 by
      have := shr_lt (m := 0) (n := 64 * l.length) halt (by omega)
      have h2 : a < 2 ^ (64 * l.length) := by rw [← W64_pow]; exact halt
      exact Nat.div_eq_of_lt (Nat.lt_of_lt_of_le h2 (Nat.pow_le_pow_right (by omega) (by omega))))
    clear hr hel hlen hwd halt
    go_enter Tryz.func84, Tryz.ntmps84
    go_wp2_with (go_at_call 78; refine HF.out.mono ?_; rintro e w' ⟨rfl, rfl⟩)
    go_ret2
    exact ⟨_, rfl, by simp only [Int.toNat_natCast]; rw [HZ.out]; exact NatAt.nil _, Below.refl _ _⟩
  · have HR := Lib.hid hr
    obtain ⟨m, hm⟩ : ∃ m, l.length = n / 64 + (m + 1) := ⟨l.length - n / 64 - 1, by omega⟩
    have hmk := make_u64 (m + 1) (by omega)
    have em : (l.length : Int) - (n : Int) / 64 = ((m + 1 : Nat) : Int) := by omega
    rw [← em] at hmk
    have HX := Lib.hid (shr_lt halt hm)
    have HM := Lib.hid hm
    have HL := Lib.hid hel
    have HW := Lib.hid hwd
    clear hm em hr hel hlen hwd halt
    go_enter Tryz.func84, Tryz.ntmps84
    go_wp2_with (go_at_call 78; refine HF.out.mono ?_; rintro e w' ⟨rfl, rfl⟩)
    have hB0 := Blk.new w (List.replicate (m + 1) 0)
    have hb0 : Below w.heap.size w (w.alloc (.cells (U (List.replicate (m + 1) 0)) 23)) := (Below.refl _ _).alloc (Nat.le_refl _) _
    rw [← fil_zero (m + 1) (a / 2 ^ n)] at hB0 hb0 ⊢
    clear hmk
    go_loopw [30] (fun i wr => ∃ k : Nat, k ≤ m + 1 ∧ i = .int .i64 k ∧ Blk wr w.heap.size (fil (m + 1) k (a / 2 ^ n)) ∧ Below w.heap.size w wr) (fun i _ => m + 1 - (intOf i).toNat)
    case atStart => exact ⟨0, by omega, rfl, hB0, hb0⟩
    case round =>
      obtain ⟨k, hk, rfl, hB, hb⟩ := hrel
      have HB := Lib.hid hB
      have HD := Lib.hid hb
      clear hB hb hB0 hb0
      by_cases hlt : k < m + 1
      · have hgl := HB.out.lt
        obtain ⟨ad, rfl, hc0⟩ := (HR.out.below HD.out) (by omega)
        have hm := HM.out
        have hck := hc0 (n / 64 + k) (by omega)
        have hz := HB.out.frozen k
        have hcs := HB.out.cell (j := k) (by rw [fil_length (by omega)]; exact hlt)
        have hkb : n / 64 + k < l.length := by omega
        have hkb2 : k ≤ 8192 := by omega
        have hml : m ≤ 8192 := by omega
        have hfl : k < (fil (m + 1) k (a / 2 ^ n)).length := by rw [fil_length (by omega)]; exact hlt
        have HFL := Lib.hid hfl
        clear hm hfl
        have ex : ((el l (n / 64 + k) : Nat) : Int) / 2 ^ (n % 64) = ((el l (n / 64 + k) / 2 ^ (n % 64) : Nat) : Int) := by simp
        have EX := Lib.hid ex
        have hD1 := HD.out.setCell (p := ⟨w.heap.size, k, none⟩) (Nat.le_refl _) (.int .u64 ((el l (n / 64 + k) / 2 ^ (n % 64) : Nat) : Int))
        have hB1 := HB.out.set k (el l (n / 64 + k) / 2 ^ (n % 64))
        have hv := shr_limb a n k
        rw [← HL.out, ← HL.out] at hv
        have HV := Lib.hid hv
        clear ex hv
        by_cases hnx : n / 64 + k + 1 < l.length
        · clear hc0
          have HB1 := Lib.hid hB1
          have HD1 := Lib.hid hD1
          clear hB1 hD1
          go_wp2_with fail
          rw [EX.out]
          have hB1 := HB1.out
          have hD1 := HD1.out
          clear HB1 HD1
          generalize wr.setCell ⟨w.heap.size, k, none⟩ (.int .u64 ((el l (n / 64 + k) / 2 ^ (n % 64) : Nat) : Int)) = w1 at *
          have hgl1 := hB1.lt
          obtain ⟨ad', e', hc1⟩ := (HR.out.below hD1) (by omega)
          cases e'
          have hck3 : w1.cell? ⟨ad.block, ad.off + (n / 64 + k + 1), none⟩ = some (.int .u64 ((el l (n / 64 + k + 1) : Nat) : Int)) := by rw [← add_succ]; exact hc1 (n / 64 + k + 1) (by omega)
          have hz1 := hB1.frozen k
          have hcs1 := hB1.cell (j := k) (by rw [List.length_set]; exact HFL.out)
          rw [el_set HFL.out, if_pos rfl, ← EX.out] at hcs1
          have HB1 := Lib.hid hB1
          have HD1 := Lib.hid hD1
          clear hB1 hD1 hc1 hck hz hcs
          have q1 : IntKind.i64.wrap ((n : Int) / 64 + (k : Int)) = (n : Int) / 64 + (k : Int) := IntWalk.i64_in _ (by omega)
          have q2 : IntKind.i64.wrap ((n : Int) / 64 + (k : Int) + 1) = (n : Int) / 64 + (k : Int) + 1 := IntWalk.i64_in _ (by omega)
          have q3 : IntKind.i64.wrap (63 - (n : Int) % 64) = 63 - (n : Int) % 64 := IntWalk.i64_in _ (by omega)
          have q4 : ((n : Int) / 64 + (k : Int) + 1).toNat = n / 64 + k + 1 := by omega
          have q5 : (63 - (n : Int) % 64).toNat = 63 - n % 64 := by omega
          have q6 : 0 ≤ (n : Int) / 64 + (k : Int) + 1 := by omega
          have q7 : (n : Int) / 64 + (k : Int) + 1 < (l.length : Int) := by omega
          have q8 : 0 ≤ 63 - (n : Int) % 64 := by omega
          have q9 : (k : Int) < (m : Int) + 1 := by omega
          have q10 : (k : Int) < ((m + 1 : Nat) : Int) := by omega
          go_still_tail 17, (by kernel_rfl)
          clear q1 q2 q3 q4 q5 q6 q7 q8 q9 q10
          change wpList _ _ _ _ _ _
          go_wp2
          rw [or_word _ _ _ (el_lt HW.out _) (Nat.mod_lt _ (by omega)), Nat.mod_eq_of_lt (el_lt HW.out (n / 64 + k + 1))]
          go_roundw
          case rel =>
            refine ⟨k + 1, by omega, by go_num, ?_, (HD1.out.setCell (p := ⟨w.heap.size, k, none⟩) (Nat.le_refl _) _).drew⟩
            have := HB1.out.set k (el l (n / 64 + k) / 2 ^ (n % 64) + el l (n / 64 + k + 1) * 2 ^ (64 - n % 64) % W64)
            rw [List.set_set, fil_set hlt HV.out.symm] at this
            exact this
          case measure => simp [intOf]; omega
        · have e0 : el l (n / 64 + k + 1) = 0 := el_out (by omega)
          have hv := HV.out
          rw [e0, Nat.zero_mul, Nat.zero_mod, Nat.add_zero] at hv
          have hB2 : Blk (wr.setCell ⟨w.heap.size, k, none⟩ (.int .u64 ((el l (n / 64 + k) / 2 ^ (n % 64) : Nat) : Int))) w.heap.size (fil (m + 1) (k + 1) (a / 2 ^ n)) := by
            rw [← fil_set hlt hv.symm]; exact hB1
          rw [← EX.out] at hB2 hD1
          have HB1 := Lib.hid hB2
          have HD1 := Lib.hid hD1
          clear hc0 hB1 hB2 hD1 e0 hv
          go_wp2_with fail
          go_roundw
          case rel => exact ⟨k + 1, by omega, by go_num, HB1.out, HD1.out⟩
          case measure => simp [intOf]; omega
      · have hk2 : k = m + 1 := by omega
        subst hk2
        have hm := HM.out
        have hml : m ≤ 8192 := by omega
        have htold := told_walk (some ⟨w.heap.size, 0, none⟩) (m + 1) (m + 1) (pad (m + 1) (a / 2 ^ n)) wr (pad_length _ _) (by rw [← fil_full]; exact HB.out.read) (Wd_pad _ _) (Nat.le_refl _) (by omega)
          (by rw [vl_pad_of HX.out]; have := (toL_length_le _ _).2 HX.out; omega)
        rw [vl_pad_of HX.out] at htold
        have HT := Lib.hid htold
        clear htold hm
        go_wp2_with (go_at_call 86; refine HT.out.mono ?_; rintro e w' ⟨v', rfl, hv', rfl⟩)
        go_ret2
        exact ⟨_, rfl, by simp only [Int.toNat_natCast]; exact hv', HD.out⟩
end Go.Proofs.YtibjogbalmbeeaaGreatDoor

namespace Go.Proofs.YtibjogbalmbeeaaGreatDoor
open Go.RowKit

set_option maxRecDepth 100000 in
theorem shl_walk (v : Value) (a : Nat) (i : Int) (w : World) (h : NatAt w v a) (hi : 0 ≤ i) (hb : blen a + i ≤ 524288) :
    Calls Tryz.prog 42 #[v, .int .i64 i] w fun e w' => ∃ v, e = .returned (.tuple #[v, .int .i64 0]) ∧ NatAt w' v (a * 2 ^ i.toNat) ∧ Below w.heap.size w w' := by
  obtain ⟨n, rfl⟩ := Int.eq_ofNat_of_zero_le hi
  have hs : (toL a).length ≤ 8192 := by rw [toL_length]; omega
  have hform := form_walk v a w h hs
  obtain ⟨A, c, rfl, hc, hr⟩ := h
  have hbits := bits_walk A (toL a).length c (toL a) w rfl hr (Wd_toL a) hc (by omega)
  rw [vl_toL] at hbits
  have hel := el_toL a
  have hwd := Wd_toL a
  have h0 := toL_length_zero a
  have hlb := toL_length a
  have halt := (toL_length_le a (toL a).length).1 (Nat.le_refl _)
  generalize toL a = l at *
  have HF := Lib.hid hform
  have HBt := Lib.hid hbits
  clear hform hbits
  have hn0 : ¬ (n : Int) < 0 := by omega
  by_cases hz : a = 0
  · have h1 : l.length = 0 := h0.2 hz
    have h2 : ((l.length : Int) == 0) = true := by simp [h1]
    subst hz
    clear h0 hr hel hwd halt h1 hlb
    go_enter Tryz.func42, Tryz.ntmps42
    go_wp2_with (go_at_call 78; refine HF.out.mono ?_; rintro e w' ⟨rfl, rfl⟩)
    go_ret2
    exact ⟨_, rfl, by simp only [Nat.zero_mul]; exact NatAt.nil _, Below.refl _ _⟩
  · have hp : 0 < l.length := by have := fun e => hz (h0.1 e); omega
    have h2 : ((l.length : Int) == 0) = false := by rw [beq_eq_false_iff_ne]; omega
    obtain ⟨M, hM⟩ : ∃ M, M = n / 64 + l.length + 1 := ⟨_, rfl⟩
    have hMb : M ≤ 20000 := by omega
    have hmk := make_u64 M (by omega)
    have em : (n : Int) / 64 + (l.length : Int) + 1 = (M : Int) := by omega
    rw [← em] at hmk
    have hlt : a * 2 ^ n < W64 ^ M := by
      have h3 : a < 2 ^ (64 * l.length) := by rw [← W64_pow]; exact halt
      rw [W64_pow]
      calc a * 2 ^ n < 2 ^ (64 * l.length) * 2 ^ n := Nat.mul_lt_mul_of_pos_right h3 (Nat.two_pow_pos n)
        _ = 2 ^ (64 * l.length + n) := (Nat.pow_add ..).symm
        _ ≤ _ := Nat.pow_le_pow_right (by omega) (by omega)
    have hfit : (toL (a * 2 ^ n)).length ≤ 8192 := by rw [toL_length, blen_mul_pow hz]; omega
    have hln : l.length ≤ 8192 := hs
    have hnn : n ≤ 524288 := by omega
    have hbb : blen a ≤ 524288 := by omega
    have hbb2 : (n : Int) ≤ 524288 - (blen a : Int) := by omega
    have HX := Lib.hid hlt
    have HFit := Lib.hid hfit
    have HM := Lib.hid hM
    have HL := Lib.hid hel
    have HW := Lib.hid hwd
    have HR := Lib.hid hr
    have HA := Lib.hid (Nat.mod_eq_of_lt halt)
    clear em hr hel hwd halt hlt h0 hlb hM hfit
    go_enter Tryz.func42, Tryz.ntmps42
    go_wp2_with (first | (go_at_call 78; refine HF.out.mono ?_; rintro e w' ⟨rfl, rfl⟩) | (go_at_call 75; refine HBt.out.mono ?_; rintro e w' ⟨rfl, rfl⟩))
    have hB0 := Blk.new w (List.replicate M 0)
    have hb0 : Below w.heap.size w (w.alloc (.cells (U (List.replicate M 0)) 23)) := (Below.refl _ _).alloc (Nat.le_refl _) _
    have ez : List.replicate M 0 = pad M (a % W64 ^ 0 * 2 ^ n) := by
      apply list_ext
      · simp [pad_length]
      · intro j hj
        simp at hj
        rw [el_pad hj]
        simp [el, List.getD_eq_getElem?_getD, hj, Nat.mod_one]
    rw [ez] at hB0 hb0 ⊢
    clear hmk ez
    go_loopw [35] (fun i wr => ∃ k : Nat, k ≤ l.length ∧ i = .int .i64 k ∧ Blk wr w.heap.size (pad M (a % W64 ^ k * 2 ^ n)) ∧ Below w.heap.size w wr) (fun i _ => l.length - (intOf i).toNat)
    case atStart => exact ⟨0, by omega, rfl, hB0, hb0⟩
    case round =>
      obtain ⟨k, hk, rfl, hB, hb⟩ := hrel
      have HB := Lib.hid hB
      have HD := Lib.hid hb
      clear hB hb hB0 hb0
      by_cases hlt : k < l.length
      · have hgl := HB.out.lt
        obtain ⟨ad, rfl, hc0⟩ := (HR.out.below HD.out) (by omega)
        have hm := HM.out
        obtain ⟨hsl, hst⟩ := shl_step (M := M) (a := a) (n := n) (i := k) (by omega)
        have hx := HL.out k
        rw [← hx] at hst
        have hpl : n / 64 + k < (pad M (a % W64 ^ k * 2 ^ n)).length := by rw [pad_length]; omega
        have hq10 : n / 64 + k < M := by omega
        have hq11 : n / 64 + k + 1 < M := by omega
        have hck : wr.cell? (ad.add k) = some (.int .u64 ((el l k : Nat) : Int)) := hc0 k hlt
        have hcs := HB.out.cell hpl
        have hz := HB.out.frozen (n / 64 + k)
        have hadb : ad.block ≠ w.heap.size := by
          obtain ⟨ad', e', hc1⟩ := HR.out (by omega)
          cases e'
          have := World.block_lt_of_cell? w _ (hc1 0 (by omega))
          rw [add_block] at this; omega
        have hfar : ∀ v, (wr.setCell ⟨w.heap.size, n / 64 + k, none⟩ v).cell? (ad.add k) = some (.int .u64 ((el l k : Nat) : Int)) := fun v => by
          rw [cell_other (fun e => hadb (by rw [← add_block ad k, ← e]))]; exact hck
        have hfz : ∀ v, (wr.setCell ⟨w.heap.size, n / 64 + k, none⟩ v).frozen? ⟨w.heap.size, n / 64 + k + 1, none⟩ = false := fun v => by
          rw [World.frozen?_setCell]; exact HB.out.frozen _
        have hfc : ∀ v, (wr.setCell ⟨w.heap.size, n / 64 + k, none⟩ v).cell? ⟨w.heap.size, n / 64 + k + 1, none⟩ = some (.int .u64 ((el (pad M (a % W64 ^ k * 2 ^ n)) (n / 64 + k + 1) : Nat) : Int)) := fun v => by
          rw [cell_other (by simp)]; exact HB.out.cell (by rw [pad_length]; omega)
        have hor := or_shl _ (el l k) (n % 64) hsl (Nat.mod_lt _ (by omega))
        have hsh := shr_two (el l k) (n % 64) (Nat.mod_lt _ (by omega))
        have hB1 := HB.out.set (n / 64 + k) (el (pad M (a % W64 ^ k * 2 ^ n)) (n / 64 + k) + el l k * 2 ^ (n % 64) % W64)
        have hD1 := HD.out.setCell (p := ⟨w.heap.size, n / 64 + k, none⟩) (Nat.le_refl _) (.int .u64 ((el (pad M (a % W64 ^ k * 2 ^ n)) (n / 64 + k) + el l k * 2 ^ (n % 64) % W64 : Nat) : Int))
        generalize el (pad M (a % W64 ^ k * 2 ^ n)) (n / 64 + k) = c1 at *
        have HST := Lib.hid hst
        have HOR := Lib.hid hor
        have HSH := Lib.hid hsh
        have HB1 := Lib.hid hB1
        have HD1 := Lib.hid hD1
        have HPL := Lib.hid hpl
        clear hst hor hsh hB1 hD1 hx hc0 hm hpl hsl
        have hln2 : (l.length : Int) ≤ 8192 := by omega
        go_wp2_with fail
        have q1 : IntKind.i64.wrap ((n : Int) / 64 + (k : Int)) = (n : Int) / 64 + (k : Int) := IntWalk.i64_in _ (by omega)
        have q4 : ((n : Int) / 64 + (k : Int)).toNat = n / 64 + k := by omega
        have q6 : 0 ≤ (n : Int) / 64 + (k : Int) := by omega
        have q7 : (n : Int) / 64 + (k : Int) < (M : Int) := by omega
        have q9 : (k : Int) < (l.length : Int) := by omega
        have q10 : 0 ≤ (n : Int) % 64 := by omega
        have q11 : ((n : Int) % 64).toNat = n % 64 := by omega
        go_still_tail 14, (by kernel_rfl)
        clear q1 q4 q6 q7 q9 q10 q11
        change wpList _ _ _ _ _ _
        go_wp2_with fail
        rw [HOR.out, HSH.out]
        have hB2 := HB1.out.set (n / 64 + k + 1) (el l k / 2 ^ (64 - n % 64))
        rw [HST.out] at hB2
        go_roundw
        case rel => exact ⟨k + 1, by omega, by go_num, hB2, (HD1.out.setCell (p := ⟨w.heap.size, n / 64 + k + 1, none⟩) (Nat.le_refl _) _).drew⟩
        case measure => simp [intOf]; omega
      · have hk2 : k = l.length := by omega
        subst hk2
        have hm := HM.out
        rw [HA.out] at HB
        have htold := told_walk (some ⟨w.heap.size, 0, none⟩) M M (pad M (a * 2 ^ n)) wr (pad_length _ _) HB.out.read (Wd_pad _ _) (Nat.le_refl _) (by omega)
          (by rw [vl_pad_of HX.out]; exact HFit.out)
        rw [vl_pad_of HX.out] at htold
        have HT := Lib.hid htold
        clear htold hm
        go_wp2_with (go_at_call 86; refine HT.out.mono ?_; rintro e w' ⟨v', rfl, hv', rfl⟩)
        go_ret2
        exact ⟨_, rfl, by simp only [Int.toNat_natCast]; exact hv', HD.out⟩
end Go.Proofs.YtibjogbalmbeeaaGreatDoor

namespace Go.Proofs.YtibjogbalmbeeaaGreatDoor
open Go.RowKit

theorem splice_all (xs : List Value) (cs : List Value) (h : cs.length = xs.length) : splice xs 0 cs = cs := by
  simp [splice, h]

set_option maxRecDepth 100000 in
theorem norm_walk (A : Option Addr) (n c : Nat) (l : List Nat) (w : World) (hn : l.length = n) (hr : RdU w A l) (hw : Wd l) (hc : n ≤ c) (hs : n ≤ 100000) (hv : (toL (vl l)).length ≤ 8192) :
    Calls Tryz.prog 79 #[.slice A n c] w fun e w' => ∃ v, e = .returned (.tuple #[v, .int .i64 0]) ∧ NatAt w' v (vl l) ∧ Below w.heap.size w w' := by
  subst hn
  have ht : trimTo l l.length = toL (vl l) := by rw [trimTo_eq hw _ (Nat.le_refl _), List.take_length]
  have hcal := trim_walk A l.length c l w rfl hr hc hs
  have hrd : RdU w A (toL (vl l)) := by rw [← ht, trimTo_take _ (Nat.le_refl _)]; exact hr.take _
  have hle : (toL (vl l)).length ≤ l.length := by rw [← ht, trimTo_take _ (Nat.le_refl _)]; simp; omega
  rw [ht] at hcal
  have hnat : ∀ w1 g, Blk w1 g (toL (vl l)) → NatAt w1 (.slice (some ⟨g, 0, none⟩) (toL (vl l)).length (toL (vl l)).length) (vl l) := fun w1 g h => h.nat _ (Nat.le_refl _)
  generalize toL (vl l) = t at *
  clear ht hr
  have hmk := make_u64 t.length (by omega)
  have HC := Lib.hid hcal
  have HR := Lib.hid hrd
  have HN := Lib.hid hnat
  clear hcal hrd hnat
  go_enter Tryz.func79, Tryz.ntmps79
  go_wp2_with (first | (go_at_call 87; refine HC.out.mono ?_; rintro e w' ⟨rfl, rfl⟩) | (with_reducible refine wpList_copy_splice rfl (.tmp 14) (.tmp 15) 67 67 rfl 23 Tryz.underlying67 (by kernel_rfl) (some ⟨w.heap.size, 0, none⟩) A t.length t.length t.length c rfl rfl w.heap.size 0 (U (List.replicate t.length 0)).toList 23 ?c1 (U t).toList ?c2 ?c3 ?c4 ?c5 w.heap.size w ?c6 (Nat.le_refl _) ?_))
  case c1 => exact Blk.new w _
  case c2 => simp [U]
  case c3 =>
    intro hp
    obtain ⟨ad, e, hcl⟩ := HR.out (by simpa [U] using hp)
    refine ⟨ad, e, fun j v hj => ?_⟩
    have hj2 : j < t.length := by
      by_cases h : j < t.length
      · exact h
      · simp [U, Nat.le_of_not_lt h] at hj
    have hu := U_get hj2
    rw [hj] at hu
    rw [hu]
    exact cell_kept ((Below.refl _ _).alloc (Nat.le_refl _) _) (hcl j hj2)
  case c4 => simp [U]
  case c5 =>
    intro v hv
    simp [U] at hv
    obtain ⟨x, _, rfl⟩ := hv
    rfl
  case c6 => exact (Below.refl _ _).alloc (Nat.le_refl _) _
  intro w1 h1 hb1
  have hB : Blk w1 w.heap.size t := by
    have := h1.out
    rw [splice_all _ _ (by simp [U])] at this
    exact this
  have HB := Lib.hid hB
  clear hB h1
  go_wp2
  go_ret2
  exact ⟨_, rfl, HN.out _ _ HB.out, hb1⟩

set_option maxRecDepth 100000 in
theorem add_walk (v1 v2 : Value) (a b : Nat) (w : World) (h1 : NatAt w v1 a) (h2 : NatAt w v2 b) (hb : blen (a + b) ≤ 524288) :
    Calls Tryz.prog 39 #[v1, v2] w fun e w' => ∃ v, e = .returned (.tuple #[v, .int .i64 0]) ∧ NatAt w' v (a + b) ∧ Below w.heap.size w w' := by
  have ha1 := blen_mono (Nat.le_add_right a b)
  have hb1 := blen_mono (Nat.le_add_left b a)
  have hsa : (toL a).length ≤ 8192 := by rw [toL_length]; omega
  have hsb : (toL b).length ≤ 8192 := by rw [toL_length]; omega
  have hfa := form_walk v1 a w h1 hsa
  have hfb := form_walk v2 b w h2 hsb
  have hfit : (toL (a + b)).length ≤ 8192 := by rw [toL_length]; omega
  obtain ⟨A1, c1, rfl, hc1, hr1⟩ := h1
  obtain ⟨A2, c2, rfl, hc2, hr2⟩ := h2
  have hela := el_toL a
  have helb := el_toL b
  have hwa := Wd_toL a
  have hwb := Wd_toL b
  have hla := (toL_length_le a (toL a).length).1 (Nat.le_refl _)
  have hlb := (toL_length_le b (toL b).length).1 (Nat.le_refl _)
  generalize toL a = la at *
  generalize toL b = lb at *
  have HFA := Lib.hid hfa
  have HFB := Lib.hid hfb
  have HR1 := Lib.hid hr1
  have HR2 := Lib.hid hr2
  have HL1 := Lib.hid hela
  have HL2 := Lib.hid helb
  have HW1 := Lib.hid hwa
  have HW2 := Lib.hid hwb
  have HA := Lib.hid hla
  have HBb := Lib.hid hlb
  have HFit := Lib.hid hfit
  clear hfa hfb hr1 hr2 hela helb hwa hwb hla hlb hfit
  have hmk1 := make_u64 (la.length + 1) (by omega)
  have hmk2 := make_u64 (lb.length + 1) (by omega)
  rw [show ((la.length + 1 : Nat) : Int) = (la.length : Int) + 1 by omega] at hmk1
  rw [show ((lb.length + 1 : Nat) : Int) = (lb.length : Int) + 1 by omega] at hmk2
  have hadd := fun (x y c : Nat) (hc : c ≤ 1) (w : World) => Any7.bits_Add64 Tryz.lays7_25 x y c hc w
  have HADD := Lib.hid hadd
  clear hadd
  by_cases hsw : la.length < lb.length
  · go_enter Tryz.func39, Tryz.ntmps39
    go_wp2_with (first | (go_at_call_of 78 (Value.slice A1 la.length c1); refine HFA.out.mono ?_; rintro e w' ⟨rfl, rfl⟩) | (go_at_call_of 78 (Value.slice A2 lb.length c2); refine HFB.out.mono ?_; rintro e w' ⟨rfl, rfl⟩))
    have hB0 := Blk.new w (List.replicate (lb.length + 1) 0)
    have hb0 : Below w.heap.size w (w.alloc (.cells (U (List.replicate (lb.length + 1) 0)) 23)) := (Below.refl _ _).alloc (Nat.le_refl _) _
    rw [← fil_zero (lb.length + 1) (a + b)] at hB0 hb0 ⊢
    clear hmk1 hmk2
    go_loopw [7, 31] (fun cy i wr => ∃ k : Nat, k ≤ lb.length ∧ i = .int .i64 k ∧ cy = .int .u64 ((car a b k : Nat) : Int) ∧ Blk wr w.heap.size (fil (lb.length + 1) k (a + b)) ∧ Below w.heap.size w wr) (fun _ i _ => lb.length - (intOf i).toNat)
    case atStart => exact ⟨0, by omega, rfl, by rw [car_zero]; rfl, hB0, hb0⟩
    case round =>
      obtain ⟨k, hk, rfl, rfl, hB, hb⟩ := hrel
      have HB := Lib.hid hB
      have HD := Lib.hid hb
      clear hB hb hB0 hb0
      have hcl := car_le a b k
      have hgl := HB.out.lt
      by_cases hlt : k < lb.length
      · obtain ⟨ad, rfl, hc0⟩ := (HR2.out.below HD.out) (by omega)
        have hck := hc0 k (by omega)
        have hz := HB.out.frozen k
        have hfl : k < (fil (lb.length + 1) k (a + b)).length := by rw [fil_length (by omega)]; omega
        have hcs := HB.out.cell hfl
        have hw := add_word a b k
        rw [← HL1.out k, ← HL2.out k] at hw
        have hadd : ∀ w1 : World, (callFunc 85 #[.int .u64 ((el lb k : Nat) : Int), .int .u64 ((el la k : Nat) : Int), .int .u64 ((car a b k : Nat) : Int)]).run Tryz.prog w1 = .ok (.value (.tuple #[.int .u64 (((a + b) / W64 ^ k % W64 : Nat) : Int), .int .u64 ((car a b (k + 1) : Nat) : Int)])) w1 := fun w1 => by
          have := HADD.out (el lb k) (el la k) (car a b k) hcl w1
          rw [Nat.add_comm (el lb k)] at this
          rw [hw.1, hw.2] at this
          exact this
        have hB1 := HB.out.set k ((a + b) / W64 ^ k % W64)
        rw [fil_set (by omega) rfl] at hB1
        have HB1 := Lib.hid hB1
        clear hc0 hw hB1 hfl
        by_cases hy : k < la.length
        · obtain ⟨ad2, rfl, hc2⟩ := (HR1.out.below HD.out) (by omega)
          have hck2 := hc2 k hy
          clear hc2
          go_wp2_with fail
          go_roundw
          case rel => exact ⟨k + 1, by omega, by go_num, rfl, HB1.out, HD.out.setCell (p := ⟨w.heap.size, k, none⟩) (Nat.le_refl _) _⟩
          case measure => simp [intOf]; omega
        · have e0 : el la k = 0 := el_out (by omega)
          rw [e0] at hadd
          have hadd2 : ∀ w1 : World, (callFunc 85 #[.int .u64 ((el lb k : Nat) : Int), .int .u64 0, .int .u64 ((car a b k : Nat) : Int)]).run Tryz.prog w1 = .ok (.value (.tuple #[.int .u64 (((a + b) / W64 ^ k % W64 : Nat) : Int), .int .u64 ((car a b (k + 1) : Nat) : Int)])) w1 := hadd
          clear hadd e0
          go_wp2_with fail
          go_roundw
          case rel => exact ⟨k + 1, by omega, by go_num, rfl, HB1.out, HD.out.setCell (p := ⟨w.heap.size, k, none⟩) (Nat.le_refl _) _⟩
          case measure => simp [intOf]; omega
      · have hk2 : k = lb.length := by omega
        subst hk2
        have hltX : a < W64 ^ lb.length ∧ b < W64 ^ lb.length := ⟨Nat.lt_of_lt_of_le HA.out (Nat.pow_le_pow_right W64_pos (by omega)), Nat.lt_of_lt_of_le HBb.out (Nat.pow_le_pow_right W64_pos (by omega))⟩
        have hz := HB.out.frozen lb.length
        have hfl : lb.length < (fil (lb.length + 1) lb.length (a + b)).length := by rw [fil_length (by omega)]; omega
        have hcs := HB.out.cell hfl
        have hB1 := HB.out.set lb.length (car a b lb.length)
        rw [fil_set (by omega) (car_top hltX.1 hltX.2), fil_full] at hB1
        have hsum : a + b < W64 ^ (lb.length + 1) := by
          rw [Nat.pow_succ, W64_num]
          have h3 := hltX.1
          have h4 := hltX.2
          rw [W64_num] at h3 h4
          omega
        have hD1 := HD.out.setCell (p := ⟨w.heap.size, lb.length, none⟩) (Nat.le_refl _) (.int .u64 ((car a b lb.length : Nat) : Int))
        have htold := told_walk (some ⟨w.heap.size, 0, none⟩) (lb.length + 1) (lb.length + 1) _ _ (pad_length _ _) hB1.read (Wd_pad _ _) (Nat.le_refl _) (by omega)
          (by rw [vl_pad_of hsum]; exact HFit.out)
        rw [vl_pad_of hsum] at htold
        have HT := Lib.hid htold
        have HD1 := Lib.hid hD1
        clear htold hD1 hB1 hfl hltX hsum
        go_wp2_with (go_at_call 86; refine HT.out.mono ?_; rintro e w' ⟨v', rfl, hv', rfl⟩)
        go_ret2
        exact ⟨_, rfl, hv', HD1.out⟩
  · go_enter Tryz.func39, Tryz.ntmps39
    go_wp2_with (first | (go_at_call_of 78 (Value.slice A1 la.length c1); refine HFA.out.mono ?_; rintro e w' ⟨rfl, rfl⟩) | (go_at_call_of 78 (Value.slice A2 lb.length c2); refine HFB.out.mono ?_; rintro e w' ⟨rfl, rfl⟩))
    have hB0 := Blk.new w (List.replicate (la.length + 1) 0)
    have hb0 : Below w.heap.size w (w.alloc (.cells (U (List.replicate (la.length + 1) 0)) 23)) := (Below.refl _ _).alloc (Nat.le_refl _) _
    rw [← fil_zero (la.length + 1) (a + b)] at hB0 hb0 ⊢
    clear hmk1 hmk2
    go_loopw [7, 31] (fun cy i wr => ∃ k : Nat, k ≤ la.length ∧ i = .int .i64 k ∧ cy = .int .u64 ((car a b k : Nat) : Int) ∧ Blk wr w.heap.size (fil (la.length + 1) k (a + b)) ∧ Below w.heap.size w wr) (fun _ i _ => la.length - (intOf i).toNat)
    case atStart => exact ⟨0, by omega, rfl, by rw [car_zero]; rfl, hB0, hb0⟩
    case round =>
      obtain ⟨k, hk, rfl, rfl, hB, hb⟩ := hrel
      have HB := Lib.hid hB
      have HD := Lib.hid hb
      clear hB hb hB0 hb0
      have hcl := car_le a b k
      have hgl := HB.out.lt
      by_cases hlt : k < la.length
      · obtain ⟨ad, rfl, hc0⟩ := (HR1.out.below HD.out) (by omega)
        have hck := hc0 k (by omega)
        have hz := HB.out.frozen k
        have hfl : k < (fil (la.length + 1) k (a + b)).length := by rw [fil_length (by omega)]; omega
        have hcs := HB.out.cell hfl
        have hw := add_word a b k
        rw [← HL1.out k, ← HL2.out k] at hw
        have hadd : ∀ w1 : World, (callFunc 85 #[.int .u64 ((el la k : Nat) : Int), .int .u64 ((el lb k : Nat) : Int), .int .u64 ((car a b k : Nat) : Int)]).run Tryz.prog w1 = .ok (.value (.tuple #[.int .u64 (((a + b) / W64 ^ k % W64 : Nat) : Int), .int .u64 ((car a b (k + 1) : Nat) : Int)])) w1 := fun w1 => by
          have := HADD.out (el la k) (el lb k) (car a b k) hcl w1
          rw [hw.1, hw.2] at this
          exact this
        have hB1 := HB.out.set k ((a + b) / W64 ^ k % W64)
        rw [fil_set (by omega) rfl] at hB1
        have HB1 := Lib.hid hB1
        clear hc0 hw hB1 hfl
        by_cases hy : k < lb.length
        · obtain ⟨ad2, rfl, hc2⟩ := (HR2.out.below HD.out) (by omega)
          have hck2 := hc2 k hy
          clear hc2
          go_wp2_with fail
          go_roundw
          case rel => exact ⟨k + 1, by omega, by go_num, rfl, HB1.out, HD.out.setCell (p := ⟨w.heap.size, k, none⟩) (Nat.le_refl _) _⟩
          case measure => simp [intOf]; omega
        · have e0 : el lb k = 0 := el_out (by omega)
          rw [e0] at hadd
          have hadd2 : ∀ w1 : World, (callFunc 85 #[.int .u64 ((el la k : Nat) : Int), .int .u64 0, .int .u64 ((car a b k : Nat) : Int)]).run Tryz.prog w1 = .ok (.value (.tuple #[.int .u64 (((a + b) / W64 ^ k % W64 : Nat) : Int), .int .u64 ((car a b (k + 1) : Nat) : Int)])) w1 := hadd
          clear hadd e0
          go_wp2_with fail
          go_roundw
          case rel => exact ⟨k + 1, by omega, by go_num, rfl, HB1.out, HD.out.setCell (p := ⟨w.heap.size, k, none⟩) (Nat.le_refl _) _⟩
          case measure => simp [intOf]; omega
      · have hk2 : k = la.length := by omega
        subst hk2
        have hltX : a < W64 ^ la.length ∧ b < W64 ^ la.length := ⟨Nat.lt_of_lt_of_le HA.out (Nat.pow_le_pow_right W64_pos (by omega)), Nat.lt_of_lt_of_le HBb.out (Nat.pow_le_pow_right W64_pos (by omega))⟩
        have hz := HB.out.frozen la.length
        have hfl : la.length < (fil (la.length + 1) la.length (a + b)).length := by rw [fil_length (by omega)]; omega
        have hcs := HB.out.cell hfl
        have hB1 := HB.out.set la.length (car a b la.length)
        rw [fil_set (by omega) (car_top hltX.1 hltX.2), fil_full] at hB1
        have hsum : a + b < W64 ^ (la.length + 1) := by
          rw [Nat.pow_succ, W64_num]
          have h3 := hltX.1
          have h4 := hltX.2
          rw [W64_num] at h3 h4
          omega
        have hD1 := HD.out.setCell (p := ⟨w.heap.size, la.length, none⟩) (Nat.le_refl _) (.int .u64 ((car a b la.length : Nat) : Int))
        have htold := told_walk (some ⟨w.heap.size, 0, none⟩) (la.length + 1) (la.length + 1) _ _ (pad_length _ _) hB1.read (Wd_pad _ _) (Nat.le_refl _) (by omega)
          (by rw [vl_pad_of hsum]; exact HFit.out)
        rw [vl_pad_of hsum] at htold
        have HT := Lib.hid htold
        have HD1 := Lib.hid hD1
        clear htold hD1 hB1 hfl hltX hsum
        go_wp2_with (go_at_call 86; refine HT.out.mono ?_; rintro e w' ⟨v', rfl, hv', rfl⟩)
        go_ret2
        exact ⟨_, rfl, hv', HD1.out⟩
end Go.Proofs.YtibjogbalmbeeaaGreatDoor
