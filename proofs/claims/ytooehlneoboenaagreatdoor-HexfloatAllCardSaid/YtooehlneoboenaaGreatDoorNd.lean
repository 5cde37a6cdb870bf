/- Walks of nat: Shl. -/
import Derived.Test.YtooehlneoboenaaGreatDoorNc
import Derived.Test.YtooehlneoboenaaGreatDoorPd
namespace Go.Proofs.YtooehlneoboenaaGreatDoor
open Go.RowKit

set_option maxRecDepth 100000 in
theorem shl_walk (v : Value) (a : Nat) (i : Int) (w : World) (h : NatAt w v a) (hi : 0 ≤ i) (hb : blen a + i ≤ 524288) :
    Calls Tryz.prog 107 #[v, .int .i64 i] w fun e w' => ∃ v, e = .returned (.tuple #[v, .int .i64 0]) ∧ NatAt w' v (a * 2 ^ i.toNat) ∧ Below w.heap.size w w' := by
  obtain ⟨n, rfl⟩ := Int.eq_ofNat_of_zero_le hi
  have hs : (toL a).length ≤ 8192 := by rw [toL_length]; omega
  have hform := form_walk v a w h hs
  obtain ⟨A, c, rfl, hc, hr⟩ := h
  have hbits := bits_walk A (toL a).length c (toL a) w rfl hr (Wd_toL a) hc (by omega)
  rw [vl_toL] at hbits
  have hel := el_toL a
  have hwd := Wd_toL a
  have h0 := toL_length_zero a
  have hlb := toL_length a
  have halt := (toL_length_le a (toL a).length).1 (Nat.le_refl _)
  generalize toL a = l at *
  have HF := Lib.hid hform
  have HBt := Lib.hid hbits
  clear hform hbits
  have hn0 : ¬ (n : Int) < 0 := by omega
  by_cases hz : a = 0
  · have h1 : l.length = 0 := h0.2 hz
    have h2 : ((l.length : Int) == 0) = true := by simp [h1]
    subst hz
    clear h0 hr hel hwd halt h1 hlb
    go_enter Tryz.func107, Tryz.ntmps107
    go_wp2_with (go_at_call 96; refine HF.out.mono ?_; rintro e w' ⟨rfl, rfl⟩)
    go_ret2
    exact ⟨_, rfl, by simp only [Nat.zero_mul]; exact NatAt.nil _, Below.refl _ _⟩
  · have hp : 0 < l.length := by have := fun e => hz (h0.1 e); omega
    have h2 : ((l.length : Int) == 0) = false := by rw [beq_eq_false_iff_ne]; omega
    obtain ⟨M, hM⟩ : ∃ M, M = n / 64 + l.length + 1 := ⟨_, rfl⟩
    have hMb : M ≤ 20000 := by omega
    have hmk := make_u64 M (by omega)
    have em : (n : Int) / 64 + (l.length : Int) + 1 = (M : Int) := by omega
    rw [← em] at hmk
    have hlt : a * 2 ^ n < W64 ^ M := by
      have h3 : a < 2 ^ (64 * l.length) := by rw [← W64_pow]; exact halt
      rw [W64_pow]
      calc a * 2 ^ n < 2 ^ (64 * l.length) * 2 ^ n := Nat.mul_lt_mul_of_pos_right h3 (Nat.two_pow_pos n)
        _ = 2 ^ (64 * l.length + n) := (Nat.pow_add ..).symm
        _ ≤ _ := Nat.pow_le_pow_right (by omega) (by omega)
    have hfit : (toL (a * 2 ^ n)).length ≤ 8192 := by rw [toL_length, blen_mul_pow hz]; omega
    have hln : l.length ≤ 8192 := hs
    have hnn : n ≤ 524288 := by omega
    have hbb : blen a ≤ 524288 := by omega
    have hbb2 : (n : Int) ≤ 524288 - (blen a : Int) := by omega
    have HX := Lib.hid hlt
    have HFit := Lib.hid hfit
    have HM := Lib.hid hM
    have HL := Lib.hid hel
    have HW := Lib.hid hwd
    have HR := Lib.hid hr
    have HA := Lib.hid (Nat.mod_eq_of_lt halt)
    clear em hr hel hwd halt hlt h0 hlb hM hfit
    go_enter Tryz.func107, Tryz.ntmps107
    go_wp2_with (first | (go_at_call 96; refine HF.out.mono ?_; rintro e w' ⟨rfl, rfl⟩) | (go_at_call 54; refine HBt.out.mono ?_; rintro e w' ⟨rfl, rfl⟩))
    have hB0 := Blk.new w (List.replicate M 0)
    have hb0 : Below w.heap.size w (w.alloc (.cells (U (List.replicate M 0)) 25)) := (Below.refl _ _).alloc (Nat.le_refl _) _
    have ez : List.replicate M 0 = pad M (a % W64 ^ 0 * 2 ^ n) := by
      apply list_ext
      · simp [pad_length]
      · intro j hj
        simp at hj
        rw [el_pad hj]
        simp [el, List.getD_eq_getElem?_getD, hj, Nat.mod_one]
    rw [ez] at hB0 hb0 ⊢
    clear hmk ez
    go_loopw [35] (fun i wr => ∃ k : Nat, k ≤ l.length ∧ i = .int .i64 k ∧ Blk wr w.heap.size (pad M (a % W64 ^ k * 2 ^ n)) ∧ Below w.heap.size w wr) (fun i _ => l.length - (intOf i).toNat)
    case atStart => exact ⟨0, by omega, rfl, hB0, hb0⟩
    case round =>
      obtain ⟨k, hk, rfl, hB, hb⟩ := hrel
      have HB := Lib.hid hB
      have HD := Lib.hid hb
      clear hB hb hB0 hb0
      by_cases hlt : k < l.length
      · have hgl := HB.out.lt
        obtain ⟨ad, rfl, hc0⟩ := (HR.out.below HD.out) (by omega)
        have hm := HM.out
        obtain ⟨hsl, hst⟩ := shl_step (M := M) (a := a) (n := n) (i := k) (by omega)
        have hx := HL.out k
        rw [← hx] at hst
        have hpl : n / 64 + k < (pad M (a % W64 ^ k * 2 ^ n)).length := by rw [pad_length]; omega
        have hq10 : n / 64 + k < M := by omega
        have hq11 : n / 64 + k + 1 < M := by omega
        have hck : wr.cell? (ad.add k) = some (.int .u64 ((el l k : Nat) : Int)) := hc0 k hlt
        have hcs := HB.out.cell hpl
        have hz := HB.out.frozen (n / 64 + k)
        have hadb : ad.block ≠ w.heap.size := by
          obtain ⟨ad', e', hc1⟩ := HR.out (by omega)
          cases e'
          have := World.block_lt_of_cell? w _ (hc1 0 (by omega))
          rw [add_block] at this; omega
        have hfar : ∀ v, (wr.setCell ⟨w.heap.size, n / 64 + k, none⟩ v).cell? (ad.add k) = some (.int .u64 ((el l k : Nat) : Int)) := fun v => by
          rw [cell_other (fun e => hadb (by rw [← add_block ad k, ← e]))]; exact hck
        have hfz : ∀ v, (wr.setCell ⟨w.heap.size, n / 64 + k, none⟩ v).frozen? ⟨w.heap.size, n / 64 + k + 1, none⟩ = false := fun v => by
          rw [World.frozen?_setCell]; exact HB.out.frozen _
        have hfc : ∀ v, (wr.setCell ⟨w.heap.size, n / 64 + k, none⟩ v).cell? ⟨w.heap.size, n / 64 + k + 1, none⟩ = some (.int .u64 ((el (pad M (a % W64 ^ k * 2 ^ n)) (n / 64 + k + 1) : Nat) : Int)) := fun v => by
          rw [cell_other (by simp)]; exact HB.out.cell (by rw [pad_length]; omega)
        have hor := or_shl _ (el l k) (n % 64) hsl (Nat.mod_lt _ (by omega))
        have hsh := shr_two (el l k) (n % 64) (Nat.mod_lt _ (by omega))
        have hB1 := HB.out.set (n / 64 + k) (el (pad M (a % W64 ^ k * 2 ^ n)) (n / 64 + k) + el l k * 2 ^ (n % 64) % W64)
        have hD1 := HD.out.setCell (p := ⟨w.heap.size, n / 64 + k, none⟩) (Nat.le_refl _) (.int .u64 ((el (pad M (a % W64 ^ k * 2 ^ n)) (n / 64 + k) + el l k * 2 ^ (n % 64) % W64 : Nat) : Int))
        generalize el (pad M (a % W64 ^ k * 2 ^ n)) (n / 64 + k) = c1 at *
        have HST := Lib.hid hst
        have HOR := Lib.hid hor
        have HSH := Lib.hid hsh
        have HB1 := Lib.hid hB1
        have HD1 := Lib.hid hD1
        have HPL := Lib.hid hpl
        clear hst hor hsh hB1 hD1 hx hc0 hm hpl hsl
        have hln2 : (l.length : Int) ≤ 8192 := by omega
        go_wp2_with fail
        have q1 : IntKind.i64.wrap ((n : Int) / 64 + (k : Int)) = (n : Int) / 64 + (k : Int) := IntWalk.i64_in _ (by omega)
        have q4 : ((n : Int) / 64 + (k : Int)).toNat = n / 64 + k := by omega
        have q6 : 0 ≤ (n : Int) / 64 + (k : Int) := by omega
        have q7 : (n : Int) / 64 + (k : Int) < (M : Int) := by omega
        have q9 : (k : Int) < (l.length : Int) := by omega
        have q10 : 0 ≤ (n : Int) % 64 := by omega
        have q11 : ((n : Int) % 64).toNat = n % 64 := by omega
        go_still_tail 14, (by kernel_rfl)
        clear q1 q4 q6 q7 q9 q10 q11
        change wpList _ _ _ _ _ _
        go_wp2_with fail
        rw [HOR.out, HSH.out]
        have hB2 := HB1.out.set (n / 64 + k + 1) (el l k / 2 ^ (64 - n % 64))
        rw [HST.out] at hB2
        go_roundw
        case rel => exact ⟨k + 1, by omega, by go_num, hB2, (HD1.out.setCell (p := ⟨w.heap.size, n / 64 + k + 1, none⟩) (Nat.le_refl _) _).drew⟩
        case measure => simp [intOf]; omega
      · have hk2 : k = l.length := by omega
        subst hk2
        have hm := HM.out
        rw [HA.out] at HB
        have htold := told_walk (some ⟨w.heap.size, 0, none⟩) M M (pad M (a * 2 ^ n)) wr (pad_length _ _) HB.out.read (Wd_pad _ _) (Nat.le_refl _) (by omega)
          (by rw [vl_pad_of HX.out]; exact HFit.out)
        rw [vl_pad_of HX.out] at htold
        have HT := Lib.hid htold
        clear htold hm
        go_wp2_with (go_at_call 98; refine HT.out.mono ?_; rintro e w' ⟨v', rfl, hv', rfl⟩)
        go_ret2
        exact ⟨_, rfl, by simp only [Int.toNat_natCast]; exact hv', HD.out⟩
end Go.Proofs.YtooehlneoboenaaGreatDoor
