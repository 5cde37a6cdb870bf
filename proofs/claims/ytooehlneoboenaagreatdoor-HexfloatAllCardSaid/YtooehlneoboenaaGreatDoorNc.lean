/- Walks of nat: Shr. -/
import Derived.Test.YtooehlneoboenaaGreatDoorNb
import Derived.Test.YtooehlneoboenaaGreatDoorPc
namespace Go.Proofs.YtooehlneoboenaaGreatDoor
open Go.RowKit

theorem shr_lt {a n m len : Nat} (h : a < W64 ^ len) (hm : len = n / 64 + m) : a / 2 ^ n < W64 ^ m := by
  rw [Nat.div_lt_iff_lt_mul (Nat.two_pow_pos n)]
  refine Nat.lt_of_lt_of_le h ?_
  rw [W64_pow, W64_pow, ← Nat.pow_add]
  exact Nat.pow_le_pow_right (by omega) (by omega)

set_option maxRecDepth 100000 in
theorem shr_walk (v : Value) (a : Nat) (i : Int) (w : World) (h : NatAt w v a) (hs : (toL a).length ≤ 8192) (hi : 0 ≤ i) (hi2 : i ≤ 100000000) :
    Calls Tryz.prog 82 #[v, .int .i64 i] w fun e w' => ∃ v, e = .returned (.tuple #[v, .int .i64 0]) ∧ NatAt w' v (a / 2 ^ i.toNat) ∧ Below w.heap.size w w' := by
  obtain ⟨n, rfl⟩ := Int.eq_ofNat_of_zero_le hi
  have hform := form_walk v a w h hs
  obtain ⟨A, c, rfl, hc, hr⟩ := h
  have hel := el_toL a
  have hlen := toL_length_le a
  have hwd := Wd_toL a
  generalize toL a = l at *
  have HF := Lib.hid hform
  clear hform
  have hn0 : ¬ (n : Int) < 0 := by omega
  have halt := (hlen l.length).1 (Nat.le_refl _)
  by_cases hbig : l.length ≤ n / 64
  · have HZ := Lib.hid (show a / 2 ^ n = 0 by
      have := shr_lt (m := 0) (n := 64 * l.length) halt (by omega)
      have h2 : a < 2 ^ (64 * l.length) := by rw [← W64_pow]; exact halt
      exact Nat.div_eq_of_lt (Nat.lt_of_lt_of_le h2 (Nat.pow_le_pow_right (by omega) (by omega))))
    clear hr hel hlen hwd halt
    go_enter Tryz.func82, Tryz.ntmps82
    go_wp2_with (go_at_call 96; refine HF.out.mono ?_; rintro e w' ⟨rfl, rfl⟩)
    go_ret2
    exact ⟨_, rfl, by simp only [Int.toNat_natCast]; rw [HZ.out]; exact NatAt.nil _, Below.refl _ _⟩
  · have HR := Lib.hid hr
    obtain ⟨m, hm⟩ : ∃ m, l.length = n / 64 + (m + 1) := ⟨l.length - n / 64 - 1, by omega⟩
    have hmk := make_u64 (m + 1) (by omega)
    have em : (l.length : Int) - (n : Int) / 64 = ((m + 1 : Nat) : Int) := by omega
    rw [← em] at hmk
    have HX := Lib.hid (shr_lt halt hm)
    have HM := Lib.hid hm
    have HL := Lib.hid hel
    have HW := Lib.hid hwd
    clear hm em hr hel hlen hwd halt
    go_enter Tryz.func82, Tryz.ntmps82
    go_wp2_with (go_at_call 96; refine HF.out.mono ?_; rintro e w' ⟨rfl, rfl⟩)
    have hB0 := Blk.new w (List.replicate (m + 1) 0)
    have hb0 : Below w.heap.size w (w.alloc (.cells (U (List.replicate (m + 1) 0)) 25)) := (Below.refl _ _).alloc (Nat.le_refl _) _
    rw [← fil_zero (m + 1) (a / 2 ^ n)] at hB0 hb0 ⊢
    clear hmk
    go_loopw [30] (fun i wr => ∃ k : Nat, k ≤ m + 1 ∧ i = .int .i64 k ∧ Blk wr w.heap.size (fil (m + 1) k (a / 2 ^ n)) ∧ Below w.heap.size w wr) (fun i _ => m + 1 - (intOf i).toNat)
    case atStart => exact ⟨0, by omega, rfl, hB0, hb0⟩
    case round =>
      obtain ⟨k, hk, rfl, hB, hb⟩ := hrel
      have HB := Lib.hid hB
      have HD := Lib.hid hb
      clear hB hb hB0 hb0
      by_cases hlt : k < m + 1
      · have hgl := HB.out.lt
        obtain ⟨ad, rfl, hc0⟩ := (HR.out.below HD.out) (by omega)
        have hm := HM.out
        have hck := hc0 (n / 64 + k) (by omega)
        have hz := HB.out.frozen k
        have hcs := HB.out.cell (j := k) (by rw [fil_length (by omega)]; exact hlt)
        have hkb : n / 64 + k < l.length := by omega
        have hkb2 : k ≤ 8192 := by omega
        have hml : m ≤ 8192 := by omega
        have hfl : k < (fil (m + 1) k (a / 2 ^ n)).length := by rw [fil_length (by omega)]; exact hlt
        have HFL := Lib.hid hfl
        clear hm hfl
        have ex : ((el l (n / 64 + k) : Nat) : Int) / 2 ^ (n % 64) = ((el l (n / 64 + k) / 2 ^ (n % 64) : Nat) : Int) := by simp
        have EX := Lib.hid ex
        have hD1 := HD.out.setCell (p := ⟨w.heap.size, k, none⟩) (Nat.le_refl _) (.int .u64 ((el l (n / 64 + k) / 2 ^ (n % 64) : Nat) : Int))
        have hB1 := HB.out.set k (el l (n / 64 + k) / 2 ^ (n % 64))
        have hv := shr_limb a n k
        rw [← HL.out, ← HL.out] at hv
        have HV := Lib.hid hv
        clear ex hv
        by_cases hnx : n / 64 + k + 1 < l.length
        · clear hc0
          have HB1 := Lib.hid hB1
          have HD1 := Lib.hid hD1
          clear hB1 hD1
          go_wp2_with fail
          rw [EX.out]
          have hB1 := HB1.out
          have hD1 := HD1.out
          clear HB1 HD1
          generalize wr.setCell ⟨w.heap.size, k, none⟩ (.int .u64 ((el l (n / 64 + k) / 2 ^ (n % 64) : Nat) : Int)) = w1 at *
          have hgl1 := hB1.lt
          obtain ⟨ad', e', hc1⟩ := (HR.out.below hD1) (by omega)
          cases e'
          have hck3 : w1.cell? ⟨ad.block, ad.off + (n / 64 + k + 1), none⟩ = some (.int .u64 ((el l (n / 64 + k + 1) : Nat) : Int)) := by rw [← add_succ]; exact hc1 (n / 64 + k + 1) (by omega)
          have hz1 := hB1.frozen k
          have hcs1 := hB1.cell (j := k) (by rw [List.length_set]; exact HFL.out)
          rw [el_set HFL.out, if_pos rfl, ← EX.out] at hcs1
          have HB1 := Lib.hid hB1
          have HD1 := Lib.hid hD1
          clear hB1 hD1 hc1 hck hz hcs
          have q1 : IntKind.i64.wrap ((n : Int) / 64 + (k : Int)) = (n : Int) / 64 + (k : Int) := IntWalk.i64_in _ (by omega)
          have q2 : IntKind.i64.wrap ((n : Int) / 64 + (k : Int) + 1) = (n : Int) / 64 + (k : Int) + 1 := IntWalk.i64_in _ (by omega)
          have q3 : IntKind.i64.wrap (63 - (n : Int) % 64) = 63 - (n : Int) % 64 := IntWalk.i64_in _ (by omega)
          have q4 : ((n : Int) / 64 + (k : Int) + 1).toNat = n / 64 + k + 1 := by omega
          have q5 : (63 - (n : Int) % 64).toNat = 63 - n % 64 := by omega
          have q6 : 0 ≤ (n : Int) / 64 + (k : Int) + 1 := by omega
          have q7 : (n : Int) / 64 + (k : Int) + 1 < (l.length : Int) := by omega
          have q8 : 0 ≤ 63 - (n : Int) % 64 := by omega
          have q9 : (k : Int) < (m : Int) + 1 := by omega
          have q10 : (k : Int) < ((m + 1 : Nat) : Int) := by omega
          go_still_tail 17, (by kernel_rfl)
          clear q1 q2 q3 q4 q5 q6 q7 q8 q9 q10
          change wpList _ _ _ _ _ _
          go_wp2
          rw [or_word _ _ _ (el_lt HW.out _) (Nat.mod_lt _ (by omega)), Nat.mod_eq_of_lt (el_lt HW.out (n / 64 + k + 1))]
          go_roundw
          case rel =>
            refine ⟨k + 1, by omega, by go_num, ?_, (HD1.out.setCell (p := ⟨w.heap.size, k, none⟩) (Nat.le_refl _) _).drew⟩
            have := HB1.out.set k (el l (n / 64 + k) / 2 ^ (n % 64) + el l (n / 64 + k + 1) * 2 ^ (64 - n % 64) % W64)
            rw [List.set_set, fil_set hlt HV.out.symm] at this
            exact this
          case measure => simp [intOf]; omega
        · have e0 : el l (n / 64 + k + 1) = 0 := el_out (by omega)
          have hv := HV.out
          rw [e0, Nat.zero_mul, Nat.zero_mod, Nat.add_zero] at hv
          have hB2 : Blk (wr.setCell ⟨w.heap.size, k, none⟩ (.int .u64 ((el l (n / 64 + k) / 2 ^ (n % 64) : Nat) : Int))) w.heap.size (fil (m + 1) (k + 1) (a / 2 ^ n)) := by
            rw [← fil_set hlt hv.symm]; exact hB1
          rw [← EX.out] at hB2 hD1
          have HB1 := Lib.hid hB2
          have HD1 := Lib.hid hD1
          clear hc0 hB1 hB2 hD1 e0 hv
          go_wp2_with fail
          go_roundw
          case rel => exact ⟨k + 1, by omega, by go_num, HB1.out, HD1.out⟩
          case measure => simp [intOf]; omega
      · have hk2 : k = m + 1 := by omega
        subst hk2
        have hm := HM.out
        have hml : m ≤ 8192 := by omega
        have htold := told_walk (some ⟨w.heap.size, 0, none⟩) (m + 1) (m + 1) (pad (m + 1) (a / 2 ^ n)) wr (pad_length _ _) (by rw [← fil_full]; exact HB.out.read) (Wd_pad _ _) (Nat.le_refl _) (by omega)
          (by rw [vl_pad_of HX.out]; have := (toL_length_le _ _).2 HX.out; omega)
        rw [vl_pad_of HX.out] at htold
        have HT := Lib.hid htold
        clear htold hm
        go_wp2_with (go_at_call 98; refine HT.out.mono ?_; rintro e w' ⟨v', rfl, hv', rfl⟩)
        go_ret2
        exact ⟨_, rfl, by simp only [Int.toNat_natCast]; exact hv', HD.out⟩
end Go.Proofs.YtooehlneoboenaaGreatDoor
