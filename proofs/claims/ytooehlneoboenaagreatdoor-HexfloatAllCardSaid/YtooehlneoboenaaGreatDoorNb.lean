/- Walks of nat: Trail, Bit. -/
import Derived.Test.YtooehlneoboenaaGreatDoorNa
namespace Go.Proofs.YtooehlneoboenaaGreatDoor
open Go.RowKit

set_option maxRecDepth 100000 in
theorem trail_walk (v : Value) (a : Nat) (w : World) (h : NatAt w v a) (hs : (toL a).length ≤ 100000) (ht : Tab64 w) :
    Calls Tryz.prog 81 #[v] w fun e w' => e = .returned (.int .i64 (tz a)) ∧ w = w' := by
  obtain ⟨A, c, rfl, hc, hr⟩ := h
  have hwd := Wd_toL a
  have hva := vl_toL a
  have h0 := toL_length_zero a
  generalize toL a = l at *
  have HR := Lib.hid hr
  have HV := Lib.hid hva
  have H0 := Lib.hid h0
  have HW := Lib.hid hwd
  have HT := Lib.hid ht
  clear hr hva h0 hwd ht
  go_enter Tryz.func81, Tryz.ntmps81
  go_wp2
  go_loop [6] (fun n => ∃ k : Nat, k ≤ l.length ∧ n = .int .i64 k ∧ ∀ j, j < k → el l j = 0) (fun n => l.length - (intOf n).toNat)
  case atStart => exact ⟨0, by omega, rfl, fun j hj => by omega⟩
  case round =>
    obtain ⟨k, hk, rfl, hT⟩ := hrel
    have HZ := Lib.hid hT
    clear hT
    by_cases hlt : k < l.length
    · obtain ⟨ad, rfl, hc0⟩ := HR.out (by omega)
      have hck := hc0 k (by omega)
      clear hc0
      have hlt64 := el_lt HW.out k
      have hx : el l k < 18446744073709551616 := by rw [W64_eq] at hlt64; omega
      have HL := Lib.hid hlt64
      clear hlt64
      by_cases hz : el l k = 0
      · have hb : (((el l k : Nat) : Int) != 0) = false := by rw [bne_eq_false_iff_eq]; omega
        have HZ2 := Lib.hid hz
        clear hz
        go_wp2
        go_round
        case rel => exact ⟨k + 1, by omega, by go_num, fun j hj => by by_cases e : j = k; (· rw [e]; exact HZ2.out); (· exact HZ.out j (by omega))⟩
        case measure => simp [intOf]; omega
      · have hb : (((el l k : Nat) : Int) != 0) = true := by rw [bne_iff_ne]; omega
        obtain ⟨hq, hq2⟩ := ctz_tz HL.out hz
        have HF := Lib.hid (show tz a = 64 * k + tz (el l k) by rw [← HV.out]; exact tz_limbs HW.out hlt HZ.out hz)
        have HQ := Lib.hid hq
        clear hq
        go_wp2_with (go_at_call 97; refine (Any7.bits_TrailingZeros64 Tryz.lays7_29 _ hx _ ?_).mono ?_; (exact fun _ => HT.out); rintro e w' ⟨rfl, rfl⟩; rw [HQ.out])
        go_ret
        exact ⟨by rw [HF.out]; simp, rfl⟩
    · have HF := Lib.hid (show tz a = 0 by
        have e : k = l.length := by omega
        have : vl l = 0 := vl_zero_of fun j hj => HZ.out j (by omega)
        rw [← HV.out, this, tz_zero])
      go_wp2
      go_ret
      exact ⟨by rw [HF.out]; rfl, rfl⟩

theorem testBit_limb (a i : Nat) : a.testBit i = (((a / W64 ^ (i / 64) % W64) / 2 ^ (i % 64)) % 2 == 1) := by
  rw [W64_pow, W64_eq]
  have e : a.testBit i = (a / 2 ^ (64 * (i / 64)) % 2 ^ 64).testBit (i % 64) := by
    rw [Nat.testBit_mod_two_pow, Nat.testBit_div_two_pow]
    have h1 : i % 64 < 64 := Nat.mod_lt _ (by omega)
    have h2 : i % 64 + 64 * (i / 64) = i := Nat.mod_add_div i 64
    simp [h1, h2]
  rw [e, Nat.testBit_eq_decide_div_mod_eq]
  generalize (a / 2 ^ (64 * (i / 64)) % 2 ^ 64) / 2 ^ (i % 64) % 2 = z
  by_cases h : z = 1 <;> simp [h]
theorem testBit_word (x k : Nat) (hx : x < W64) : (bits BinOp.and IntKind.u64 ((x : Nat) / 2 ^ k : Int) 1 == 1) = ((x / 2 ^ k) % 2 == 1) := by
  have e : ((x : Int) / 2 ^ k) = ((x / 2 ^ k : Nat) : Int) := by simp
  have hlt : x / 2 ^ k < 2 ^ 64 := Nat.lt_of_le_of_lt (Nat.div_le_self _ _) (by rw [← W64_eq]; exact hx)
  rw [e]
  clear e
  generalize x / 2 ^ k = y at *
  rw [and_one_u64 _ (by omega) (by omega)]
  rw [Bool.eq_iff_iff]
  simp
  omega

/-- The bit of value 2^i (a name of our own, so that the walk leaves it alone). -/
def tb (a i : Nat) : Bool := a.testBit i

set_option maxRecDepth 100000 in
theorem bit_walk (v : Value) (a : Nat) (i : Int) (w : World) (h : NatAt w v a) (hs : (toL a).length ≤ 100000) (hi : -1 ≤ i) (hi2 : i ≤ 100000000) :
    Calls Tryz.prog 109 #[v, .int .i64 i] w fun e w' => e = .returned (.bool (decide (0 ≤ i) && tb a i.toNat)) ∧ w = w' := by
  obtain ⟨A, c, rfl, hc, hr⟩ := h
  have hel := el_toL a
  have h0 := toL_length_le a
  have hwd := Wd_toL a
  generalize toL a = l at *
  by_cases hneg : i < 0
  · have e : i = -1 := by omega
    subst e
    clear hr h0 hel
    go_enter Tryz.func109, Tryz.ntmps109
    go_wp2
    go_ret
    exact ⟨by simp, rfl⟩
  obtain ⟨n, rfl⟩ := Int.eq_ofNat_of_zero_le (show 0 ≤ i by omega)
  have ht := testBit_limb a n
  rw [← hel] at ht
  have hx := el_lt hwd (n / 64)
  have hw := testBit_word (el l (n / 64)) (n % 64) hx
  rw [← ht] at hw
  have HW := Lib.hid hw
  have HT := Lib.hid ht
  clear ht hw hx
  by_cases hlt : n / 64 < l.length
  · obtain ⟨ad, rfl, hc0⟩ := hr (by omega)
    have hck := hc0 (n / 64) (by omega)
    clear hc0 h0 hel
    go_enter Tryz.func109, Tryz.ntmps109
    go_wp2
    go_ret
    refine ⟨?_, rfl⟩
    simp only [tb]
    rw [← HW.out]
    simp
  · have he : el l (n / 64) = 0 := el_out (by omega)
    have HF := Lib.hid (show a.testBit n = false by rw [HT.out, he]; simp)
    clear h0 hel hr he
    go_enter Tryz.func109, Tryz.ntmps109
    go_wp2
    go_ret
    exact ⟨by simp only [tb]; rw [HF.out]; simp, rfl⟩
end Go.Proofs.YtooehlneoboenaaGreatDoor
