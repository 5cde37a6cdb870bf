/- Walks of gnomonref01: Bits, Cmp, DivSmall. -/
import Derived.Test.YtooehlneoboenaaGreatDoorVd
namespace Go.Proofs.YtooehlneoboenaaGreatDoor
open Go.RowKit

theorem blen_half {x : Nat} (h : x ≠ 0) : blen x = 1 + blen (x / 2) := by
  by_cases h1 : x / 2 = 0
  · have : x = 1 := by omega
    subst this; decide
  · have h2 := blen_lo h1
    have h3 := blen_hi (x / 2)
    have h4 := blen_pos h1
    have e : 1 + blen (x / 2) = blen (x / 2) + 1 := by omega
    rw [e]
    apply blen_of
    · have e2 : 2 ^ blen (x / 2) = 2 * 2 ^ (blen (x / 2) - 1) := by rw [← Nat.pow_succ']; congr 1; omega
      omega
    · rw [Nat.pow_succ]; omega

set_option maxRecDepth 100000 in
set_option maxHeartbeats 1000000 in
theorem rbits_walk (v : Value) (a : Nat) (w : World) (h : DgAt w v a) (hs : (toD a).length ≤ 100000) :
    Calls Tryz.prog 27 #[v] w fun e w' => e = .returned (.int .i64 ((blen a : Nat) : Int)) ∧ w' = w := by
  obtain ⟨A, c, rfl, hc, hz, hr⟩ := h
  have h0 := toD_length_zero a
  have hbd := @blen_digs a
  have hwe := We_toD a
  generalize toD a = l at *
  by_cases ha : a = 0
  · have h1 : l.length = 0 := h0.2 ha
    have h2 : ((l.length : Int) == 0) = true := by simp [h1]
    subst ha
    clear hr hbd h0 h1 hz
    go_enter Tryz.func27, Tryz.ntmps27
    go_wp2
    go_ret
    exact ⟨rfl, rfl⟩
  · have hp : 0 < l.length := by have := fun e => ha (h0.1 e); omega
    have h2 : ((l.length : Int) == 0) = false := by rw [beq_eq_false_iff_ne]; omega
    obtain ⟨ad, rfl, hc0⟩ := hr hp
    have hck := hc0 (l.length - 1) (by omega)
    obtain ⟨t, ht⟩ : ∃ t, el l (l.length - 1) = t := ⟨_, rfl⟩
    rw [ht] at hck
    have HB := Lib.hid (show blen a = 32 * (l.length - 1) + blen t by rw [hbd ha, ht])
    have HTW := Lib.hid (show t < W32 by rw [← ht]; exact eD_lt hwe _)
    have HTB := Lib.hid (show blen t ≤ 64 by
      rw [← ht]
      exact blen_le.2 (Nat.lt_of_lt_of_le (eD_lt hwe _) (by rw [W32_eq]; exact Nat.pow_le_pow_right (by omega) (by omega))))
    have e1 : ((l.length : Int) - 1).toNat = l.length - 1 := by omega
    clear h0 hbd ht hc0 hz hwe
    go_enter Tryz.func27, Tryz.ntmps27
    go_wp2_with fail
    go_loop [3, 4] (fun n x => ∃ j y : Nat, n = .int .i64 (32 * ((l.length : Int) - 1) + (j : Int)) ∧ x = .int .u32 (y : Int) ∧ Hid (blen t = j + blen y) ∧ j ≤ 1000000 ∧ Hid (y < W32)) (fun _ x => (intOf x).toNat)
    case atStart => exact ⟨0, t, by simp, rfl, Lib.hid (by omega), by omega, HTW⟩
    case round =>
      obtain ⟨j, y, rfl, rfl, HY, hj, HYW⟩ := hrel
      by_cases hy : y = 0
      · subst hy
        have hE : 32 * ((l.length : Int) - 1) + (j : Int) = ((blen a : Nat) : Int) := by
          have h3 := HB.out
          have h4 := HY.out
          rw [blen_zero] at h4
          omega
        have HE := Lib.hid hE
        clear hE
        have h0' : ¬ (0 : Int) < ((0 : Nat) : Int) := by omega
        go_wp2
        go_ret
        exact ⟨by rw [HE.out]; rfl, rfl⟩
      · have hyp : (0 : Int) < (y : Int) := by omega
        have HY2 := Lib.hid (show blen t = (j + 1) + blen (y / 2) by rw [HY.out, blen_half hy]; omega)
        have hj2 : j ≤ 64 := by
          have h3 := HY.out
          have h4 := blen_pos hy
          have h5 := HTB.out
          omega
        have HJ2 := Lib.hid hj2
        have HWR := Lib.hid (show IntKind.u32.wrap ((y : Int) / 2) = ((y / 2 : Nat) : Int) by have := HYW.out; rw [W32_num] at this; rw [IntKind.wrap_u32]; omega)
        have hwr := HWR.out
        go_wp2
        go_round
        case rel => exact ⟨j + 1, y / 2, by go_num, by first | rfl | go_num | (rw [HWR.out]), HY2, Nat.le_trans (Nat.succ_le_succ HJ2.out) (by omega), Lib.hid (Nat.lt_of_le_of_lt (Nat.div_le_self _ _) HYW.out)⟩
        case measure => simp [intOf]; omega

/-- -1, 0, 1. -/
def cmpI (a b : Nat) : Int := if a < b then -1 else if a = b then 0 else 1
theorem len_lt {a b : Nat} (h : (toD a).length < (toD b).length) : a < b := by
  have h1 := (toD_length_le a (toD a).length).1 (Nat.le_refl _)
  apply Nat.lt_of_lt_of_le h1
  apply Classical.byContradiction
  intro h2
  have := (toD_length_le b (toD a).length).2 (by omega)
  omega
theorem cmp_high {a b k : Nat} (h : a / W32 ^ (k + 1) = b / W32 ^ (k + 1)) (h2 : a / W32 ^ k % W32 < b / W32 ^ k % W32) : a < b := by
  apply Classical.byContradiction
  intro h3
  have h4 : b / W32 ^ k ≤ a / W32 ^ k := Nat.div_le_div_right (by omega)
  have e : ∀ z, z / W32 ^ (k + 1) = z / W32 ^ k / W32 := fun z => by rw [Nat.pow_succ, Nat.div_div_eq_div_mul]
  rw [e, e] at h
  have h5 := Nat.div_add_mod (a / W32 ^ k) W32
  have h6 := Nat.div_add_mod (b / W32 ^ k) W32
  rw [h] at h5
  omega
theorem cmp_next {a b k : Nat} (h : a / W32 ^ (k + 1) = b / W32 ^ (k + 1)) (h2 : a / W32 ^ k % W32 = b / W32 ^ k % W32) : a / W32 ^ k = b / W32 ^ k := by
  have e : ∀ z, z / W32 ^ (k + 1) = z / W32 ^ k / W32 := fun z => by rw [Nat.pow_succ, Nat.div_div_eq_div_mul]
  rw [e, e] at h
  have h5 := Nat.div_add_mod (a / W32 ^ k) W32
  have h6 := Nat.div_add_mod (b / W32 ^ k) W32
  rw [h, h2] at h5
  omega

set_option maxRecDepth 100000 in
set_option maxHeartbeats 1000000 in
theorem rcmp_walk (v u : Value) (a b : Nat) (w : World) (h : DgAt w v a) (g : DgAt w u b) (hs : (toD a).length ≤ 100000) :
    Calls Tryz.prog 72 #[v, u] w fun e w' => e = .returned (.int .i64 (cmpI a b)) ∧ Below w.heap.size w w' := by
  obtain ⟨A, c, rfl, hc, hz, hr⟩ := h
  obtain ⟨A', c', rfl, hc', hz', hr'⟩ := g
  have hL1 := @len_lt a b
  have hL2 := @len_lt b a
  have he := el_toD a
  have he' := el_toD b
  have ha := (toD_length_le a (toD a).length).1 (Nat.le_refl _)
  have hb := (toD_length_le b (toD b).length).1 (Nat.le_refl _)
  generalize toD a = l at *
  generalize toD b = m at *
  clear hz hz'
  by_cases hne : l.length = m.length
  case neg =>
    have hneb : ((l.length : Int) != (m.length : Int)) = true := by rw [bne_iff_ne]; omega
    by_cases hlt : l.length < m.length
    · have HC := Lib.hid (show cmpI a b = -1 by unfold cmpI; rw [if_pos (hL1 hlt)])
      have hlti : (l.length : Int) < (m.length : Int) := by omega
      clear hr hr' hL1 hL2 he he' ha hb hne hlt
      go_enter Tryz.func72, Tryz.ntmps72
      go_wp2
      go_ret
      exact ⟨by rw [HC.out]; rfl, Below.refl _ _⟩
    · have hgt := hL2 (by omega)
      have HC := Lib.hid (show cmpI a b = 1 by unfold cmpI; rw [if_neg (by omega), if_neg (by omega)])
      have hlti : ¬ (l.length : Int) < (m.length : Int) := by omega
      clear hr hr' hL1 hL2 he he' ha hb hne hlt hgt
      go_enter Tryz.func72, Tryz.ntmps72
      go_wp2
      go_ret
      exact ⟨by rw [HC.out]; rfl, Below.refl _ _⟩
  have hneb : ((l.length : Int) != (m.length : Int)) = false := by rw [bne_eq_false_iff_eq]; omega
  have HR := Lib.hid hr
  have HR' := Lib.hid hr'
  have HE := Lib.hid he
  have HE' := Lib.hid he'
  have HST := Lib.hid (show a / W32 ^ l.length = b / W32 ^ l.length by rw [Nat.div_eq_of_lt ha, hne, Nat.div_eq_of_lt hb])
  have HNE := Lib.hid hne
  clear hr hr' hL1 hL2 he he' ha hb hne
  go_enter Tryz.func72, Tryz.ntmps72
  go_wp2_with fail
  go_loopw [5] (fun i wr => ∃ k : Nat, k ≤ l.length ∧ i = .int .i64 ((k : Int) - 1) ∧ Hid (a / W32 ^ k = b / W32 ^ k) ∧ Hid (Below w.heap.size w wr)) (fun i _ => (intOf i + 1).toNat)
  case atStart => exact ⟨l.length, Nat.le_refl _, by go_num, HST, Lib.hid (Below.refl _ _)⟩
  case round =>
    obtain ⟨k, hk, rfl, HK, HW⟩ := hrel
    by_cases h0 : k = 0
    · have HC := Lib.hid (show cmpI a b = 0 by
        have := HK.out
        rw [h0] at this
        simp at this
        unfold cmpI
        rw [if_neg (by omega), if_pos this])
      have hneg : ¬ (0 : Int) ≤ (k : Int) - 1 := by omega
      clear h0
      go_wp2
      go_ret
      exact ⟨by rw [HC.out]; rfl, HW.out⟩
    · obtain ⟨j, rfl⟩ : ∃ j, k = j + 1 := ⟨k - 1, by omega⟩
      obtain ⟨ad, rfl, hc0⟩ := (HR.out.below HW.out) (by omega)
      obtain ⟨ad', rfl, hc0'⟩ := (HR'.out.below HW.out) (by have := HNE.out; omega)
      have hck := hc0 j (by omega)
      have hck' := hc0' j (by have := HNE.out; omega)
      have e1 := HE.out j
      have e2 := HE'.out j
      obtain ⟨x, hx⟩ : ∃ x, el l j = x := ⟨_, rfl⟩
      obtain ⟨y, hy⟩ : ∃ y, el m j = y := ⟨_, rfl⟩
      rw [hx] at hck e1
      rw [hy] at hck' e2
      have hkj : (((j + 1 : Nat) : Int) - 1) = (j : Int) := by omega
      rw [hkj]
      have hjm : (j : Int) < (m.length : Int) := by have := HNE.out; omega
      have HX := Lib.hid e1
      have HY := Lib.hid e2
      clear hc0 hc0' e1 e2 hx hy h0
      rcases Nat.lt_trichotomy x y with h | h | h
      · have HC := Lib.hid (show cmpI a b = -1 by
          unfold cmpI; rw [if_pos (cmp_high HK.out (by rw [← HX.out, ← HY.out]; exact h))])
        have hi : (x : Int) < (y : Int) := by omega
        clear h
        go_wp2_with fail
        go_quiet (fail)
        go_wp2
        go_ret
        exact ⟨by rw [HC.out]; rfl, by first | exact below_dn HW.out _ | exact below_dn (below_dn HW.out _) _⟩
      · subst h
        have HK2 := Lib.hid (cmp_next HK.out (by rw [← HX.out, ← HY.out]))
        have hi : ¬ (x : Int) < (x : Int) := by omega
        go_wp2_with fail
        go_quiet (fail)
        go_wp2_with fail
        go_quiet (fail)
        go_wp2
        go_roundw
        case rel => exact ⟨j, by omega, by go_num, HK2, Lib.hid (below_dn HW.out _)⟩
        case measure => simp [intOf]
      · have HC := Lib.hid (show cmpI a b = 1 by
          have h3 := cmp_high HK.out.symm (by rw [← HX.out, ← HY.out]; exact h)
          unfold cmpI; rw [if_neg (by omega), if_neg (by omega)])
        have hi : ¬ (x : Int) < (y : Int) := by omega
        have hi2 : (y : Int) < (x : Int) := by omega
        clear h
        go_wp2_with fail
        go_quiet (fail)
        go_wp2_with fail
        go_quiet (fail)
        go_wp2
        go_ret
        exact ⟨by rw [HC.out]; rfl, by first | exact below_dn HW.out _ | exact below_dn (below_dn HW.out _) _⟩
end Go.Proofs.YtooehlneoboenaaGreatDoor
