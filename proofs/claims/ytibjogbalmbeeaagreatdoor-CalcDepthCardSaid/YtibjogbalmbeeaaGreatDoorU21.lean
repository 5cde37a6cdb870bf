/- Walks of natmul: power, Pow. · Walk of natmul: Pow. -/
import Derived.Test.YtibjogbalmbeeaaGreatDoorU11
import Derived.Deep.DeepCutAuto

namespace Go.Proofs.YtibjogbalmbeeaaGreatDoor
open Go.RowKit

theorem pow_lim {a e : Nat} (he : 1 ≤ e) : (toL (a ^ e)).length ≤ (blen a * e + 63) / 64 := by
  have h : a ^ e < 2 ^ (blen a * e) := by
    rw [Nat.pow_mul]; exact Nat.pow_lt_pow_left (blen_hi a) (by omega)
  have h2 := blen_le.2 h
  rw [toL_length]; omega
/-- What next keeps: both rows of the power. -/
structure PowS (w wr : World) (gz gs room P : Nat) : Prop where
  hz : ∃ r, Blk wr gz (toL P ++ r) ∧ (toL P ++ r).length = room
  hs : ∃ l, Blk wr gs l ∧ l.length = room
  ne : gz ≠ gs
  z0 : w.heap.size ≤ gz
  s0 : w.heap.size ≤ gs
  bl : RowKit.Below w.heap.size w wr

theorem bits_and_one (x : Nat) (hx : x < 9223372036854775808) : bits .and .i64 (x : Int) 1 = ((x % 2 : Nat) : Int) := by
  have h1 : (BitVec.ofInt 64 (x : Int)).toNat = x := by
    rw [BitVec.ofInt_natCast, BitVec.toNat_ofNat]; exact Nat.mod_eq_of_lt (by omega)
  have h2 : (BitVec.ofInt 64 (1 : Int)).toNat = 1 := rfl
  show IntKind.i64.wrap ((BitVec.ofInt 64 (x : Int) &&& BitVec.ofInt 64 (1 : Int)).toNat : Int) = _
  rw [BitVec.toNat_and, h1, h2, Nat.and_one_is_mod, IntKind.wrap_i64]
  omega
theorem pow_init (w : World) (room q : Nat) : PowS w (((w.alloc (.cells (U (List.replicate room 0)) 23)).alloc (.cells (U (List.replicate room 0)) 23)).drewN q) w.heap.size (w.heap.size + 1) room 0 := by
  have h1 := Blk.new w (List.replicate room 0)
  have h2 := Blk.new (w.alloc (.cells (U (List.replicate room 0)) 23)) (List.replicate room 0)
  rw [show (w.alloc (.cells (U (List.replicate room 0)) 23)).heap.size = w.heap.size + 1 by simp] at h2
  refine ⟨⟨List.replicate room 0, ?_, by rw [toL_zero]; simp⟩, ⟨_, h2.dn q, by simp⟩, by omega, Nat.le_refl _, by omega, below_dn (below_chain (below_alloc' _ _) (below_alloc' _ _)) q⟩
  rw [toL_zero, List.nil_append]
  exact (h1.below (below_alloc' _ _)).dn q
theorem PowS.swap0 {w wr : World} {gz gs room : Nat} (h : PowS w wr gz gs room 0) : PowS w wr gs gz room 0 := by
  obtain ⟨⟨r, h1, h2⟩, ⟨l, h3, h4⟩, h5, h6, h7, h8⟩ := h
  refine ⟨⟨l, ?_, ?_⟩, ⟨r, ?_, ?_⟩, Ne.symm h5, h7, h6, h8⟩
  · rw [toL_zero]; exact h3
  · rw [toL_zero]; exact h4
  · rw [toL_zero] at h1; exact h1
  · rw [toL_zero] at h2; exact h2
theorem PowS.put {w wr w2 : World} {gz gs room P0 P : Nat} {r : List Nat} (h : PowS w wr gz gs room P0) (hk : KB gz wr w2) (hB : Blk w2 gz (toL P ++ r)) (hl : (toL P ++ r).length = room) : PowS w w2 gz gs room P := by
  obtain ⟨_, ⟨l, h3, h4⟩, h5, h6, h7, h8⟩ := h
  exact ⟨⟨r, hB, hl⟩, ⟨l, h3.kb hk (Ne.symm h5), h4⟩, h5, h6, h7, h8.trans (hk.below h6 h8.size)⟩
theorem PowS.step {w wr w2 : World} {gz gs room P0 P : Nat} {r : List Nat} (h : PowS w wr gz gs room P0) (hk : KB gs wr w2) (hB : Blk w2 gs (toL P ++ r)) (hl : (toL P ++ r).length = room) : PowS w w2 gs gz room P := by
  obtain ⟨⟨l, h3, h4⟩, _, h5, h6, h7, h8⟩ := h
  exact ⟨⟨r, hB, hl⟩, ⟨_, h3.kb hk h5, h4⟩, Ne.symm h5, h7, h6, h8.trans (hk.below h7 h8.size)⟩
theorem PowS.dn {w wr : World} {gz gs room P : Nat} (h : PowS w wr gz gs room P) (q : Nat) : PowS w (wr.drewN q) gz gs room P := by
  obtain ⟨⟨r, h1, h2⟩, ⟨l, h3, h4⟩, h5, h6, h7, h8⟩ := h
  exact ⟨⟨r, h1.dn q, h2⟩, ⟨l, h3.dn q, h4⟩, h5, h6, h7, below_dn h8 q⟩
/-- One call of next on the two rows. -/
theorem PowS.next {w wr : World} {gz gs room P : Nat} (h : PowS w wr gz gs room P) (ns : Nat) (hn : ns ≤ room) (B : Option Addr) (lb cb b : Nat) (hB : Rd gs wr B (toL b)) (hlb : (toL b).length = lb) (hcb : lb ≤ cb) (hr : (toL P).length + lb ≤ room) (h0 : 0 < (toL P).length) (hroom : room ≤ 10000) :
    Calls Tryz.prog 178 #[.slice (some ⟨gs, 0, none⟩) ns room, .slice (some ⟨gz, 0, none⟩) (toL P).length room, .slice B lb cb] wr fun e w' => e = .returned (.slice (some ⟨gs, 0, none⟩) (toL (P * b)).length room) ∧ PowS w w' gs gz room (P * b) := by
  obtain ⟨⟨r, h1, h2⟩, ⟨l, h3, h4⟩, h5, h6, h7, h8⟩ := id h
  refine (next_walk gs ns room (some ⟨gz, 0, none⟩) B (toL P).length lb room cb P b l wr (h1.front h5) hB rfl hlb (by omega) hcb h3 h4 hn hr h0 (by omega) (by omega)).mono ?_
  rintro e w' ⟨r2, e1, e2, e3, e4⟩
  exact ⟨e1, h.step e4 e2 e3⟩

set_option maxRecDepth 100000 in
set_option maxHeartbeats 2000000 in
theorem power_walk (A : Option Addr) (la ca a n : Nat) (w : World) (hA : RdU w A (toL a)) (hla : (toL a).length = la) (hca : la ≤ ca) (h2 : 2 ≤ blen a) (hn : 1 ≤ n) (hsz : n * blen a ≤ 524288) :
    Calls Tryz.prog 160 #[.slice A la ca, .int .i64 (n : Int)] w fun e w' => ∃ v g, e = .returned v ∧ OwnU w' v g (a ^ n) ∧ w.heap.size ≤ g ∧ Below w.heap.size w w' := by
  have hbl : blen a ≤ 524288 := Nat.le_trans (Nat.le_mul_of_pos_left _ hn) hsz
  have hla2 : la ≤ 8192 := by rw [← hla, toL_length]; omega
  have hBi := bits_walk A la ca (toL a) w hla hA (Wd_toL a) hca (by omega)
  rw [vl_toL] at hBi
  obtain ⟨room, hroom⟩ : ∃ room, n * blen a / 64 + 2 = room := ⟨_, rfl⟩
  have hroom2 : room ≤ 8194 := by omega
  have hlar : la ≤ room := by
    have h3 : blen a ≤ n * blen a := Nat.le_mul_of_pos_left _ hn
    rw [← hla, toL_length]; omega
  have hmk := make_u64 room (by omega)
  have hnn : n ≤ 524288 := Nat.le_trans (Nat.le_mul_of_pos_right _ (by omega)) hsz
  obtain ⟨bb, hbb⟩ : ∃ bb, blen a = bb := ⟨_, rfl⟩
  rw [hbb] at hBi h2 hsz hroom hbl
  have p1 : IntKind.i64.wrap ((n : Int) * (bb : Int)) = ((n * bb : Nat) : Int) := by
    rw [IntKind.wrap_i64, ← Int.natCast_mul]; omega
  have p2 : IntKind.i64.wrap ((n : Int) * (bb : Int)) = (n : Int) * (bb : Int) := by
    rw [p1, Int.natCast_mul]
  obtain ⟨nb, hnb⟩ : ∃ nb, n * bb = nb := ⟨_, rfl⟩
  rw [hnb] at p1 hroom hsz
  obtain ⟨q, hq⟩ : ∃ q, nb / 64 = q := ⟨_, rfl⟩
  have p3 : ((nb : Int)).tdiv 64 = (q : Int) := by rw [Int.tdiv_eq_ediv_of_nonneg (by omega)]; omega
  have p3' : (nb : Int) / 64 = (q : Int) := by omega
  have p4 : IntKind.i64.wrap (q : Int) = (q : Int) := by rw [IntKind.wrap_i64]; omega
  have p5 : IntKind.i64.wrap ((q : Int) + 2) = (room : Int) := by rw [IntKind.wrap_i64]; omega
  have HBi := Lib.hid hBi
  have HA := Lib.hid hA
  have HM := Lib.hid (show la ≤ room ∧ room ≤ 8194 ∧ (toL a).length = la ∧ la ≤ ca ∧ 2 ≤ bb ∧ 1 ≤ n ∧ nb ≤ 524288 ∧ blen a = bb ∧ nb / 64 + 2 = room ∧ n * bb = nb ∧ n ≤ 524288 from ⟨hlar, hroom2, hla, hca, h2, hn, hsz, hbb, hroom, hnb, hnn⟩)
  clear hBi hA hla hca h2 hn hsz hbb hroom hnb hbl hla2 hlar hroom2 hnn p2 hq
  have p2 : ((n : Int) * (bb : Int)) = (nb : Int) := by rw [← HM.out.2.2.2.2.2.2.2.2.2.1, Int.natCast_mul]
  rw [p2] at p1
  go_enter Tryz.func160, Tryz.ntmps160
  go_wp2_with fail
  refine HBi.out.mono ?_
  rintro e w1 ⟨rfl, rfl⟩
  go_upto_region 2 with fail
  go_cut [6, 7] (fun s6 s7 wx => ∃ gz gs, s6 = .slice (some ⟨gz, 0, none⟩) room room ∧ s7 = .slice (some ⟨gs, 0, none⟩) room room ∧ Hid (PowS w wx gz gs room 0))
  case first =>
    go_region_with (fail)
    all_goals
      go_wp2_with fail
      go_meet
      first
      | exact ⟨w.heap.size, w.heap.size + 1, rfl, rfl, Lib.hid (pow_init _ _ _)⟩
      | exact ⟨w.heap.size + 1, w.heap.size, rfl, rfl, Lib.hid (pow_init _ _ _).swap0⟩
  case rest =>
    obtain ⟨gz, gs, rfl, rfl, HS⟩ := hcut
    obtain ⟨⟨r0, hB0, hl0⟩, _⟩ := HS.out
    have HB0 := Lib.hid hB0
    have HL0 := Lib.hid hl0
    have hrd := (HA.out.away (g := gz) HS.out.z0).kb (KB.of HS.out.bl)
    have HRd := Lib.hid hrd
    have hlai : (la : Int) ≤ (room : Int) := by have := HM.out; omega
    have hn64 : IntKind.u64.wrap (n : Int) = (n : Int) := by have := HM.out; rw [IntKind.wrap_u64]; omega
    clear hB0 hl0 hrd p1 p2 p3 p3' p4 p5
    go_wp2_with (with_reducible refine wpList_copy_u rfl (.tmp 20) (.tmp 21) rfl gz room room la ca A rfl rfl (toL a) (toL 0 ++ r0) HM.out.2.2.1 HM.out.1 HB0.out (by rw [HL0.out]; exact HM.out.1) HRd.out ?_)
    intro w2 hB2 hk2
    have hS2 := HS.out.put hk2.out hB2.out (by rw [List.length_append, HM.out.2.2.1, List.length_drop, HL0.out]; have := HM.out.1; omega)
    have HS2 := Lib.hid hS2
    have hLen := fun W => Tryz.bits_Len (n : Int) W (by omega) (by have := HM.out; omega)
    rw [Int.toNat_natCast, bitLen_blen (by rw [W64_num]; have := HM.out; omega)] at hLen
    have hn0 : n ≠ 0 := by have := HM.out; omega
    have t1 := blen_lo hn0
    have t2 := blen_hi n
    have t3 := blen_pos hn0
    have t4 : blen n ≤ 64 := blen_le.2 (by have := HM.out; omega)
    have hdv : n / 2 ^ (blen n - 1) = 1 := by
      have e : 2 ^ blen n = 2 ^ (blen n - 1) * 2 := by rw [← Nat.pow_succ]; congr 1; omega
      have e1 : 1 ≤ n / 2 ^ (blen n - 1) := (Nat.le_div_iff_mul_le (Nat.two_pow_pos _)).2 (by omega)
      have e2 : n / 2 ^ (blen n - 1) < 2 := by rw [Nat.div_lt_iff_lt_mul (Nat.two_pow_pos _)]; omega
      omega
    obtain ⟨j0, hj0⟩ : ∃ j0, blen n = j0 + 1 := ⟨blen n - 1, by omega⟩
    rw [hj0, Nat.add_sub_cancel] at hdv
    rw [hj0] at hLen t4
    have HLen := Lib.hid hLen
    have HJ := Lib.hid (show n / 2 ^ j0 = 1 ∧ j0 ≤ 63 from ⟨hdv, by omega⟩)
    have p6 : IntKind.i64.wrap (((j0 + 1 : Nat) : Int) - 2) = (j0 : Int) - 1 := by rw [IntKind.wrap_i64]; omega
    have p6' : IntKind.i64.wrap ((j0 : Int) + 1 - 2) = (j0 : Int) - 1 := by rw [IntKind.wrap_i64]; omega
    clear hB2 hk2 hS2 HS HB0 HL0 HRd hLen hn0 t1 t2 t3 t4 hdv hj0
    go_wp2_with fail
    refine (HLen.out _).mono ?_
    rintro e w3 ⟨rfl, rfl⟩
    go_wp2_with fail
    go_loopw [6, 7, 8] (fun z sc i wr => ∃ (j gz gs ns : Nat), j ≤ 63 ∧ i = .int .i64 ((j : Int) - 1) ∧ z = .slice (some ⟨gz, 0, none⟩) (toL (a ^ (n / 2 ^ j))).length room ∧ sc = .slice (some ⟨gs, 0, none⟩) ns room ∧ ns ≤ room ∧ 1 ≤ n / 2 ^ j ∧ Hid (PowS w wr gz gs room (a ^ (n / 2 ^ j)))) (fun _ _ i _ => (intOf i + 1).toNat)
    case atStart =>
      have hj := HJ.out
      exact ⟨j0, gz, gs, room, hj.2, rfl, by rw [hj.1, Nat.pow_one, HM.out.2.2.1], rfl, Nat.le_refl _, by omega, by rw [hj.1, Nat.pow_one]; exact HS2⟩
    case round =>
      clear HS2
      obtain ⟨j, gz, gs, ns, hj, rfl, rfl, rfl, hns, he, HS⟩ := hrel
      cases j with
      | zero =>
        rw [Nat.pow_zero, Nat.div_one] at HS ⊢
        rw [show ((0 : Nat) : Int) - 1 = -1 from rfl]
        obtain ⟨⟨r, h1, _⟩, _, _, hz0, _, hb⟩ := HS.out
        have hM := HM.out
        have hlen : (toL (a ^ n)).length ≤ 10000 := by
          have h3 := pow_lim (a := a) (e := n) hM.2.2.2.2.2.1
          have e : blen a * n = nb := by rw [hM.2.2.2.2.2.2.2.1, Nat.mul_comm]; exact hM.2.2.2.2.2.2.2.2.2.1
          rw [e] at h3
          omega
        have hlr : (toL (a ^ n)).length ≤ room := by
          have h3 := pow_lim (a := a) (e := n) hM.2.2.2.2.2.1
          have e : blen a * n = nb := by rw [hM.2.2.2.2.2.2.2.1, Nat.mul_comm]; exact hM.2.2.2.2.2.2.2.2.2.1
          rw [e] at h3
          omega
        have ht := mtrim_walk (some ⟨gz, 0, none⟩) (toL (a ^ n)).length room (toL (a ^ n)) wr rfl (h1.front (g := gz + 1) (by omega)).rdU hlr (by omega)
        rw [trimTo_eq (Wd_toL _) _ (Nat.le_refl _), List.take_length, vl_toL] at ht
        have HT := Lib.hid ht
        have HO := Lib.hid (show OwnU wr (.slice (some ⟨gz, 0, none⟩) (toL (a ^ n)).length (toL (a ^ n)).length) gz (a ^ n) from ⟨r, rfl, h1⟩)
        have HZ0 := Lib.hid hz0
        have HB := Lib.hid hb
        clear h1 hz0 hb hM hlen hlr ht he hns
        go_wp2_with fail
        refine HT.out.mono ?_
        rintro e w5 ⟨rfl, rfl⟩
        go_wp2
        go_ret
        exact ⟨_, gz, rfl, HO.out, HZ0.out, HB.out⟩
      | succ j =>
        rw [show ((j + 1 : Nat) : Int) - 1 = (j : Int) by omega]
        obtain ⟨e', he'⟩ : ∃ e', n / 2 ^ (j + 1) = e' := ⟨_, rfl⟩
        have hdiv : n / 2 ^ j = 2 * e' + n / 2 ^ j % 2 := by
          rw [← he', Nat.pow_succ, ← Nat.div_div_eq_div_mul]; omega
        have hle : n / 2 ^ j ≤ n := Nat.div_le_self _ _
        rw [he'] at he HS ⊢
        have hM := HM.out
        have hx1 : 2 * (blen a * e') ≤ nb := by
          rw [hM.2.2.2.2.2.2.2.1, ← hM.2.2.2.2.2.2.2.2.2.1, Nat.mul_left_comm, Nat.mul_comm n]
          exact Nat.mul_le_mul_left _ (by omega)
        have l1 := pow_lim (a := a) (e := e') he
        have l2 := pow_lim (a := a) (e := 2 * e') (by omega)
        have e2 : blen a * (2 * e') = 2 * (blen a * e') := by ac_rfl
        rw [e2] at l2
        have hP0 : ∀ t, 0 < (toL (a ^ t)).length := fun t => by
          have ha0 : a ≠ 0 := fun e => by rw [e, blen_zero] at hM; omega
          have h3 : (toL (a ^ t)).length ≠ 0 := fun e => by
            have := (toL_length_zero _).1 e
            exact absurd this (by have := Nat.pow_pos (n := t) (Nat.pos_of_ne_zero ha0); omega)
          omega
        have hsq : a ^ e' * a ^ e' = a ^ (2 * e') := by rw [← Nat.pow_add]; congr 1; omega
        have hN1 := PowS.next (w := w) (wr := wr.drew) (HS.out.dn 1) ns hns (some ⟨gz, 0, none⟩) (toL (a ^ e')).length room (a ^ e') (by
          obtain ⟨⟨r, h1, _⟩, _, h5, _⟩ := HS.out
          exact (h1.dn 1).front h5) rfl (by omega) (by omega) (hP0 e') (by omega)
        rw [hsq] at hN1
        have HN1 := Lib.hid hN1
        have hz1 : ((toL (a ^ e')).length : Int) ≤ (room : Int) := by omega
        have hbit : bits .and .i64 ((n : Int) / 2 ^ j) 1 = ((n / 2 ^ j % 2 : Nat) : Int) := by
          rw [show (n : Int) / 2 ^ j = ((n / 2 ^ j : Nat) : Int) by simp]
          exact bits_and_one _ (by omega)
        have hsr : a ^ (2 * e') * a = a ^ (2 * e' + 1) := (Nat.pow_succ ..).symm
        have hx2 : 2 * (blen a * e') + blen a ≤ nb ∨ n / 2 ^ j % 2 = 0 := by
          by_cases h0 : n / 2 ^ j % 2 = 0
          · exact .inr h0
          · refine .inl ?_
            have e3 : 2 * (blen a * e') + blen a = blen a * (2 * e' + 1) := by rw [Nat.mul_add, Nat.mul_one, Nat.mul_left_comm]
            rw [e3, hM.2.2.2.2.2.2.2.1, ← hM.2.2.2.2.2.2.2.2.2.1, Nat.mul_comm n]
            exact Nat.mul_le_mul_left _ (by omega)
        have hla3 : la ≤ (blen a + 63) / 64 := by rw [← hM.2.2.1, toL_length]; omega
        have hj3 : IntKind.i64.wrap ((j : Int) - 1) = (j : Int) - 1 := by rw [IntKind.wrap_i64]; omega
        have hN2 : ∀ W, PowS w W gs gz room (a ^ (2 * e')) → n / 2 ^ j % 2 ≠ 0 → Calls Tryz.prog 178 #[.slice (some ⟨gz, 0, none⟩) room room, .slice (some ⟨gs, 0, none⟩) (toL (a ^ (2 * e'))).length room, .slice A la ca] W fun e w' => e = .returned (.slice (some ⟨gz, 0, none⟩) (toL (a ^ (2 * e' + 1))).length room) ∧ PowS w w' gz gs room (a ^ (2 * e' + 1)) := by
          intro W hW hne
          have := hW.next room (Nat.le_refl _) A la ca a ((HA.out.away (g := gz) hW.s0).kb (KB.of hW.bl)) hM.2.2.1 hM.2.2.2.1 (by omega) (hP0 _) (by omega)
          rw [hsr] at this
          exact this
        have HN2 := Lib.hid hN2
        have hz2 : ((toL (a ^ (2 * e'))).length : Int) ≤ (room : Int) := by omega
        have HE := Lib.hid (show n / 2 ^ j = 2 * e' + n / 2 ^ j % 2 ∧ 1 ≤ e' ∧ j ≤ 63 from ⟨hdiv, he, by omega⟩)
        obtain ⟨bt, hbt⟩ : ∃ bt, n / 2 ^ j % 2 = bt := ⟨_, rfl⟩
        have hbt2 : bt = 0 ∨ bt = 1 := by omega
        rw [hbt] at hbit HN2 HE
        clear hN1 hsq l1 hx1 hdiv hle he' l2 e2 hP0 hsr hx2 hla3 hN2 hM hbt he hj hns
        have hmin : min j 64 = j := Nat.min_eq_left (by have := HE.out.2.2; omega)
        rcases hbt2 with rfl | rfl
        · have hbq : (bits BinOp.and IntKind.i64 ((n : Int) / 2 ^ (min j 64)) 1 == 1) = false := by rw [hmin, hbit]; rfl
          clear hbit hmin
          go_wp2_with fail
          go_region_with ((go_at_call 178; refine HN1.out.mono ?_; rintro e w5 ⟨rfl, hs5⟩; have HS5 := Lib.hid hs5; clear hs5))
          all_goals
            go_wp2_with fail
            go_roundw
            case rel => exact ⟨j, gs, gz, room, by have := HE.out.2.2; omega, rfl, by rw [HE.out.1, Nat.add_zero], rfl, Nat.le_refl _, by have := HE.out; omega, by rw [HE.out.1, Nat.add_zero]; exact HS5⟩
            case measure => simp [intOf]
        · have hbq : (bits BinOp.and IntKind.i64 ((n : Int) / 2 ^ (min j 64)) 1 == 1) = true := by rw [hmin, hbit]; rfl
          clear hbit hmin
          go_wp2_with fail
          go_region_with ((go_at_call 178; refine HN1.out.mono ?_; rintro e w5 ⟨rfl, hs5⟩; have HS5 := Lib.hid hs5; clear hs5))
          all_goals
            have HN3 := Lib.hid (HN2.out w5.drew (HS5.out.dn 1) (by omega))
            go_wp2_with fail
            go_region_with ((go_at_call 178; refine HN3.out.mono ?_; rintro e w6 ⟨rfl, hs6⟩; have HS6 := Lib.hid hs6; clear hs6))
            all_goals
              go_wp2_with fail
              go_roundw
              case rel => exact ⟨j, gz, gs, room, by have := HE.out.2.2; omega, rfl, by rw [HE.out.1], rfl, Nat.le_refl _, by have := HE.out; omega, by rw [HE.out.1]; exact HS6⟩
              case measure => simp [intOf]
end Go.Proofs.YtibjogbalmbeeaaGreatDoor

namespace Go.Proofs.YtibjogbalmbeeaaGreatDoor
open Go.RowKit

set_option maxRecDepth 100000 in
set_option maxHeartbeats 1000000 in
theorem pow_walk (v : Value) (a n : Nat) (w : World) (h : NatAt w v a) (h2 : 2 ≤ blen a) (hsz : n * blen a ≤ 524288) (hsa : (toL a).length ≤ 8192) :
    Calls Tryz.prog 128 #[v, .int .i64 (n : Int)] w fun e w' => ∃ v' g, e = .returned (.tuple #[v', .int .i64 0]) ∧ OwnU w' v' g (a ^ n) ∧ w.heap.size ≤ g ∧ Below w.heap.size w w' := by
  have HF := Lib.hid (form_walk v a w h hsa)
  obtain ⟨A, ca, rfl, hca, hr⟩ := h
  have hni : ¬ (n : Int) < 0 := by omega
  by_cases hn : n = 0
  · subst hn
    have hB := Blk.new w (toL 1)
    have e1 : toL 1 = [1] := by rw [toL_pos (by omega), show (1 : Nat) % W64 = 1 from Nat.mod_eq_of_lt (by rw [W64_num]; omega), show (1 : Nat) / W64 = 0 from Nat.div_eq_of_lt (by rw [W64_num]; omega), toL_zero]
    have hO : OwnU (w.alloc (.cells #[.int .u64 1] 23)) (.slice (some ⟨w.heap.size, 0, none⟩) 1 1) w.heap.size (a ^ 0) := by
      rw [Nat.pow_zero]
      refine ⟨[], by rw [e1]; rfl, ?_⟩
      rw [List.append_nil]
      rw [e1] at hB ⊢
      exact hB
    have HO := Lib.hid hO
    have HW := Lib.hid (below_alloc' w (.cells #[.int .u64 1] 23))
    clear hB hO e1 hsz h2 hsa hca hr
    generalize (toL a).length = la at *
    go_enter Tryz.func128, Tryz.ntmps128
    go_wp2_with fail
    refine HF.out.mono ?_
    rintro e w1 ⟨rfl, rfl⟩
    go_wp2
    go_ret2
    exact ⟨_, _, rfl, HO.out, Nat.le_refl _, HW.out⟩
  · have hBi := bits_walk A (toL a).length ca (toL a) w rfl hr (Wd_toL a) hca (by omega)
    rw [vl_toL] at hBi
    have hP := power_walk A (toL a).length ca a n w hr rfl hca h2 (by omega) hsz
    have hlen : (toL (a ^ n)).length ≤ 8192 := by
      have h3 := pow_lim (a := a) (e := n) (by omega)
      rw [Nat.mul_comm] at h3
      omega
    have hlim : n ≤ 524288 / (blen a - 1) := by
      rw [Nat.le_div_iff_mul_le (by omega)]
      exact Nat.le_trans (Nat.mul_le_mul_left _ (Nat.sub_le _ _)) hsz
    have hT := fun g W => mtold_walk (some ⟨g, 0, none⟩) (toL (a ^ n)).length (toL (a ^ n)).length W hlen
    obtain ⟨bb, hbb⟩ : ∃ bb, blen a = bb := ⟨_, rfl⟩
    rw [hbb] at hBi h2 hlim
    have hbbl : bb ≤ 600000 := by rw [← hbb]; have := toL_length a; omega
    obtain ⟨d, hd⟩ : ∃ d, bb - 1 = d := ⟨_, rfl⟩
    have hd0 : 1 ≤ d := by omega
    rw [hd] at hlim
    obtain ⟨q, hq⟩ : ∃ q, 524288 / d = q := ⟨_, rfl⟩
    rw [hq] at hlim
    have hqb : q ≤ 524288 := by rw [← hq]; exact Nat.div_le_self _ _
    have p1 : IntKind.i64.wrap ((bb : Int) - 1) = (d : Int) := by rw [IntKind.wrap_i64]; omega
    have p2 : (524288 : Int).tdiv (d : Int) = (q : Int) := by
      rw [Int.tdiv_eq_ediv_of_nonneg (by omega), ← hq]; rfl
    have p2' : (524288 : Int) / (d : Int) = (q : Int) := by rw [← hq]; rfl
    have p3 : IntKind.i64.wrap (q : Int) = (q : Int) := by rw [IntKind.wrap_i64]; omega
    have c1 : ((d : Int) == 0) = false := by rw [beq_eq_false_iff_ne]; omega
    have c6 : ¬ (d : Int) = 0 := by omega
    have c7 : ¬ d = 0 := by omega
    have c2 : ((n : Int) == 0) = false := by rw [beq_eq_false_iff_ne]; omega
    have c3 : ¬ (bb : Int) ≤ 1 := by omega
    have c4 : ¬ (q : Int) < (n : Int) := by omega
    have c5 : ((d : Int) == -1) = false := by rw [beq_eq_false_iff_ne]; omega
    have HBi := Lib.hid hBi
    have HP := Lib.hid hP
    have HT := Lib.hid hT
    clear hBi hP hT hlen hlim hbb hd hd0 hq hqb hbbl hsz h2 hsa hca hr hn
    generalize (toL a).length = la at *
    go_enter Tryz.func128, Tryz.ntmps128
    go_wp2_with fail
    refine HF.out.mono ?_
    rintro e w1 ⟨rfl, rfl⟩
    go_wp2_with fail
    refine HBi.out.mono ?_
    rintro e w1 ⟨rfl, rfl⟩
    go_wp2_with fail
    refine HP.out.mono ?_
    rintro e w1 ⟨v, g, rfl, ho, hg, hb⟩
    have HO := Lib.hid ho
    have HG := Lib.hid hg
    have HB := Lib.hid hb
    obtain ⟨rest, rfl, _⟩ := ho
    clear hg hb
    go_wp2_with fail
    refine (HT.out _ _).mono ?_
    rintro e w2 ⟨rfl, rfl⟩
    go_wp2
    go_ret2
    exact ⟨_, g, rfl, HO.out, HG.out, HB.out⟩
end Go.Proofs.YtibjogbalmbeeaaGreatDoor
