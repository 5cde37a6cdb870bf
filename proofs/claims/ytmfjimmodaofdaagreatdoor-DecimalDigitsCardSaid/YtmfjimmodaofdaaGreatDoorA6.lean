/- Walks of gnomonref11: power, units, nearer. -/
import Derived.Test.YtmfjimmodaofdaaGreatDoorA5
import Derived.Test.YtmfjimmodaofdaaGreatDoorEr
namespace Go.Proofs.YtmfjimmodaofdaaGreatDoor
open Go.RowKit

structure FrS (w W : World) (nv dv : Value) (N D : Nat) : Prop where
  n : DgAt W nv N
  d : DgAt W dv D
  bl : Below w.heap.size w W
theorem FrS.below {w W W2 : World} {nv dv : Value} {N D : Nat} (h : FrS w W nv dv N D) (hb : Below W.heap.size W W2) : FrS w W2 nv dv N D := ⟨h.n.below hb, h.d.below hb, below_chain h.bl hb⟩
theorem in_eq (m : Nat) (x q : Int) : 2 ^ (-x).toNat * 10 ^ q.toNat = inB x q ∧ m * 2 ^ x.toNat * 10 ^ (-q).toNat = inA m x q := ⟨Nat.mul_comm _ _, rfl⟩

set_option maxRecDepth 100000 in
set_option maxHeartbeats 1000000 in
theorem rpower_walk (nv dv : Value) (m : Nat) (x : Int) (w : World) (hn : DgAt w nv (m * 2 ^ x.toNat)) (hd : DgAt w dv (2 ^ (-x).toNat)) (hm0 : m ≠ 0) (hm : blen m ≤ 64) (hx1 : -1200 ≤ x) (hx2 : x ≤ 1100) :
    Calls Tryz.prog 155 #[nv, dv] w fun e w' => ∃ t : Int, e = .returned (.int .i64 t) ∧ tenIs m x t ∧ -430 ≤ t ∧ t ≤ 430 ∧ Below w.heap.size w w' := by
  have hb1 := blen_mul m (2 ^ x.toNat)
  have hb2 := blen_pow_two x.toNat
  have hb3 := blen_pow_two (-x).toNat
  have HR := Lib.hid (fun (t : Int) W (a : DgAt W nv (m * 2 ^ x.toNat)) (b : DgAt W dv (2 ^ (-x).toNat)) (h1 : -2000 ≤ t) (h2 : t ≤ 2000) => rreach_walk nv dv _ _ t W a b (by omega) (by omega) h1 h2)
  simp only [(in_eq m x _).1, (in_eq m x _).2] at HR
  have HBn := Lib.hid (rbits_walk nv _ w hn (by rw [toD_length]; omega))
  have HBd := Lib.hid (rbits_walk dv _ w hd (by rw [toD_length]; omega))
  have HLo := Lib.hid (fun t h => ten_lo (m := m) (x := x) (t := t) hm0 (by omega) h)
  have HHi := Lib.hid (fun t h => ten_hi (m := m) (x := x) (t := t) hm (by omega) h)
  have HS := Lib.hid (show FrS w w nv dv _ _ from ⟨hn, hd, Below.refl _ _⟩)
  have hbn1 := blen_mul m (2 ^ x.toNat)
  obtain ⟨N, hN⟩ : ∃ N, m * 2 ^ x.toNat = N := ⟨_, rfl⟩
  obtain ⟨D, hD⟩ : ∃ D, 2 ^ (-x).toNat = D := ⟨_, rfl⟩
  rw [hN] at HBn HS hb1
  rw [hD] at HBd HS hb3
  rw [hN, hD] at HR
  obtain ⟨a, ha⟩ : ∃ a, blen N = a := ⟨_, rfl⟩
  obtain ⟨b, hb⟩ : ∃ b, blen D = b := ⟨_, rfl⟩
  rw [ha] at HBn hb1
  rw [hb] at HBd hb3
  obtain ⟨t0, ht0⟩ : ∃ t0 : Int, (((a : Int) - (b : Int)) * 3).tdiv 10 = t0 := ⟨_, rfl⟩
  have htb : -430 ≤ t0 ∧ t0 ≤ 430 := by
    rw [← ht0]
    by_cases hs : 0 ≤ ((a : Int) - (b : Int)) * 3
    · rw [Int.tdiv_eq_ediv_of_nonneg hs]; omega
    · have e : ((a : Int) - (b : Int)) * 3 = -(-(((a : Int) - (b : Int)) * 3)) := by omega
      rw [e, Int.neg_tdiv, Int.tdiv_eq_ediv_of_nonneg (by omega)]; omega
  have p1 : IntKind.i64.wrap ((a : Int) - (b : Int)) = (a : Int) - (b : Int) := by rw [IntKind.wrap_i64]; omega
  have p2 : IntKind.i64.wrap (((a : Int) - (b : Int)) * 3) = ((a : Int) - (b : Int)) * 3 := by rw [IntKind.wrap_i64]; omega
  have p3 : IntKind.i64.wrap t0 = t0 := by rw [IntKind.wrap_i64]; omega
  have HTb := Lib.hid htb
  clear hn hd hm0 hm hx1 hx2 hb1 hb2 hb3 hbn1 hN hD ha hb htb
  go_enter Tryz.func155, Tryz.ntmps155
  go_wp2_with fail
  refine HBn.out.mono ?_
  rintro e w' ⟨rfl, hw⟩
  (have h := hw.symm); subst h
  clear hw
  go_wp2_with fail
  refine HBd.out.mono ?_
  rintro e w' ⟨rfl, hw⟩
  (have h := hw.symm); subst h
  clear hw
  go_wp2_with fail
  clear p1 p2 p3 ht0
  go_loopw [5] (fun tv wr => ∃ t : Int, tv = .int .i64 t ∧ -430 ≤ t ∧ t ≤ 430 ∧ Hid (FrS w wr nv dv N D)) (fun tv _ => (intOf tv + 500).toNat)
  case atStart => exact ⟨t0, rfl, HTb.out.1, HTb.out.2, HS⟩
  case round =>
    obtain ⟨t, rfl, ht1, ht2, HS1⟩ := hrel
    go_wp2_with fail
    refine (HR.out t _ HS1.out.n HS1.out.d (by omega) (by omega)).mono ?_
    rintro e w5 ⟨rfl, hb5⟩
    have HS5 := Lib.hid (HS1.out.below hb5)
    clear hb5 HS1
    by_cases hc : inA m x t < inB x t
    · rw [decide_eq_false (by omega)]
      have htl : -400 < t := by
        refine Int.not_le.1 fun hh => ?_
        have := HLo.out t hh
        omega
      have p1 : IntKind.i64.wrap (t - 1) = t - 1 := by rw [IntKind.wrap_i64]; omega
      clear hc
      go_wp2_with fail
      go_roundw
      case rel => exact ⟨t - 1, rfl, by omega, by omega, HS5⟩
      case measure => simp [intOf]; omega
    · rw [decide_eq_true (by omega)]
      have HLe := Lib.hid (show inB x t ≤ inA m x t by omega)
      have htl : t < 400 := by
        refine Int.not_le.1 fun hh => ?_
        have := HHi.out t hh
        omega
      clear hc
      go_wp2_with fail
      go_loopw [5] (fun tv wr => ∃ t : Int, tv = .int .i64 t ∧ -430 ≤ t ∧ t < 400 ∧ Hid (inB x t ≤ inA m x t) ∧ Hid (FrS w wr nv dv N D)) (fun tv _ => (500 - intOf tv).toNat)
      case atStart => exact ⟨t, rfl, ht1, htl, HLe, HS5⟩
      case round =>
        obtain ⟨u, rfl, hu1, hu2, HLu, HSu⟩ := hrel
        have p1 : IntKind.i64.wrap (u + 1) = u + 1 := by rw [IntKind.wrap_i64]; omega
        go_wp2_with fail
        refine (HR.out (u + 1) _ HSu.out.n HSu.out.d (by omega) (by omega)).mono ?_
        rintro e w7 ⟨rfl, hb7⟩
        have HS7 := Lib.hid (HSu.out.below hb7)
        clear hb7 HSu
        by_cases hc : inB x (u + 1) ≤ inA m x (u + 1)
        · rw [decide_eq_true hc]
          have hul : u + 1 < 400 := by
            refine Int.not_le.1 fun hh => ?_
            have := HHi.out (u + 1) hh
            omega
          have HLc := Lib.hid hc
          clear hc
          go_wp2_with fail
          go_roundw
          case rel => exact ⟨u + 1, rfl, by omega, hul, HLc, HS7⟩
          case measure => simp [intOf]; omega
        · rw [decide_eq_false hc]
          have HTn := Lib.hid (show tenIs m x u from ⟨HLu.out, by omega⟩)
          clear hc
          go_wp2
          go_ret
          exact ⟨u, rfl, HTn.out, hu1, by omega, HS7.out.bl⟩

/-- How what is left lies to one half: -1, 0, 1; 2 where nothing is left. -/
def halfC (A B : Nat) : Int := if A % B = 0 then 2 else cmpD (2 * (A % B)) B

set_option maxRecDepth 100000 in
set_option maxHeartbeats 1000000 in
theorem runits_walk (nv dv : Value) (N D : Nat) (q : Int) (w : World) (hn : DgAt w nv N) (hd : DgAt w dv D) (hD : D ≠ 0) (b1 : blen N ≤ 10000) (b2 : blen D ≤ 10000) (q1 : -2000 ≤ q) (q2 : q ≤ 2000) :
    Calls Tryz.prog 156 #[nv, dv, .int .i64 q] w fun e w' => ∃ v, e = .returned (.tuple #[v, .int .i64 (halfC (N * 10 ^ (-q).toNat) (D * 10 ^ q.toNat))]) ∧ DgAt w' v (N * 10 ^ (-q).toNat / (D * 10 ^ q.toNat)) ∧ Below w.heap.size w w' := by
  have hbn := blen_mul N (10 ^ (-q).toNat)
  have hbd := blen_mul D (10 ^ q.toNat)
  have hp1 := blen_pow_ten (-q).toNat
  have hp2 := blen_pow_ten q.toNat
  have hB0 : D * 10 ^ q.toNat ≠ 0 := Nat.mul_ne_zero hD (by have := Nat.pow_pos (n := q.toNat) (show 0 < 10 by omega); omega)
  have hA1 : blen (N * 10 ^ (-q).toNat) ≤ 20000 := by omega
  have hB1 : blen (D * 10 ^ q.toNat) ≤ 20000 := by omega
  have key : ∀ A B : Nat, B ≠ 0 → blen A ≤ 20000 → blen B ≤ 20000 → (∀ W a b, DgAt W a A → DgAt W b B → Calls Tryz.prog 189 #[a, b] W fun e w' => ∃ q r, e = .returned (.tuple #[q, r]) ∧ DgAt w' q (A / B) ∧ DgAt w' r (A % B) ∧ Below W.heap.size W w') ∧
      (∀ W v, DgAt W v (A % B) → Calls Tryz.prog 184 #[v, .int .i64 1] W fun e w' => ∃ v', e = .returned v' ∧ DgAt w' v' (A % B * 2) ∧ Below W.heap.size W w') ∧
      (∀ W v b, DgAt W v (A % B * 2) → DgAt W b B → Calls Tryz.prog 190 #[v, b] W fun e w' => e = .returned (.int .i64 (cmpD (A % B * 2) B)) ∧ Below W.heap.size W w') := fun A B hB h1 h2 => by
    have hrl := blen_mono (Nat.le_of_lt (Nat.mod_lt A (show 0 < B by omega)))
    have hr2 := blen_mul (A % B) 2
    have hb22 : blen 2 = 2 := by decide
    have hl1 : (toD A).length ≤ 39000 := by rw [toD_length]; omega
    have hl2 : (toD B).length ≤ 39000 := by rw [toD_length]; omega
    have hl3 : (toD (A % B)).length ≤ 39000 := by rw [toD_length]; omega
    have hl4 : (toD (A % B * 2)).length ≤ 39000 := by rw [toD_length]; omega
    exact ⟨fun W a b g h => rdivmod_walk a b _ _ W g h hB hl1 hl2, fun W v h => rshl_walk v _ 1 W h (by omega) (by omega) (by omega), fun W v b g h => rncmp_walk v b _ _ W g h (by omega)⟩
  obtain ⟨kd, ks, kc⟩ := key _ _ hB0 hA1 hB1
  have HDM := Lib.hid kd
  have HSh := Lib.hid ks
  have HCm := Lib.hid kc
  have hz := toD_length_zero (N * 10 ^ (-q).toNat % (D * 10 ^ q.toNat))
  have HHf := Lib.hid (show halfC (N * 10 ^ (-q).toNat) (D * 10 ^ q.toNat) = if N * 10 ^ (-q).toNat % (D * 10 ^ q.toNat) = 0 then 2 else cmpD (N * 10 ^ (-q).toNat % (D * 10 ^ q.toNat) * 2) (D * 10 ^ q.toNat) by unfold halfC; rw [Nat.mul_comm 2])
  have HN := Lib.hid hn
  have HD := Lib.hid hd
  have hND : (toD N).length ≤ 40000 ∧ (toD D).length ≤ 40000 ∧ (toD (10 ^ (-q).toNat)).length ≤ 40000 ∧ (toD (10 ^ q.toNat)).length ≤ 40000 := by
    rw [toD_length, toD_length, toD_length, toD_length]; omega
  clear kd ks kc key
  obtain ⟨hf, hhf⟩ : ∃ hf, halfC (N * 10 ^ (-q).toNat) (D * 10 ^ q.toNat) = hf := ⟨_, rfl⟩
  rw [hhf] at HHf ⊢
  by_cases hq : q < 0
  · have e1 : q.toNat = 0 := by omega
    simp only [e1, Nat.pow_zero, Nat.mul_one] at *
    have HT := Lib.hid (rten_walk (-q).toNat (by omega) w)
    have p1 : IntKind.i64.wrap (-q) = (((-q).toNat : Nat) : Int) := by rw [IntKind.wrap_i64]; omega
    obtain ⟨k, hk⟩ : ∃ k, (-q).toNat = k := ⟨_, rfl⟩
    simp only [hk] at *
    have HM := Lib.hid (fun W v (g : DgAt W nv N) (h : DgAt W v (10 ^ k)) => rprod_walk nv v N (10 ^ k) W g h hND.1 hND.2.2.1)
    obtain ⟨M, hM⟩ : ∃ M, N * 10 ^ k = M := ⟨_, rfl⟩
    simp only [hM] at *
    obtain ⟨R, hR⟩ : ∃ R, M % D = R := ⟨_, rfl⟩
    obtain ⟨C, hC⟩ : ∃ C, M / D = C := ⟨_, rfl⟩
    simp only [hR, hC] at *
    obtain ⟨cc, hcc⟩ : ∃ cc, cmpD (R * 2) D = cc := ⟨_, rfl⟩
    simp only [hcc] at *
    have HZ := Lib.hid hz
    clear hn hd hD b1 b2 q1 q2 hbn hbd hp1 hp2 hB0 hhf e1 hk hM hR hC hA1 hB1 hND hcc hz
    go_enter Tryz.func156, Tryz.ntmps156
    go_wp2_with fail
    refine HT.out.mono ?_
    rintro e w1 ⟨x, rfl, hx, hb1⟩
    have HX := Lib.hid hx
    have HB1 := Lib.hid hb1
    clear hx hb1
    go_wp2_with fail
    refine (HM.out _ _ (HN.out.below HB1.out) HX.out).mono ?_
    rintro e w2 ⟨y, rfl, hy, hb2⟩
    have HS2 := Lib.hid (show FrS w w2 y dv M D from ⟨hy, (HD.out.below HB1.out).below hb2, below_chain HB1.out hb2⟩)
    clear hy hb2 HX HB1
    go_wp2_with fail
    refine (HDM.out _ _ _ HS2.out.n HS2.out.d).mono ?_
    rintro e w3 ⟨cv, rv, rfl, hcv, hrv, hb3⟩
    have HC3 := Lib.hid hcv
    have HR3 := Lib.hid hrv
    have HS3 := Lib.hid (HS2.out.below hb3)
    obtain ⟨A3, c3, rfl, _, _, _⟩ := id hrv
    clear hcv hrv hb3 HS2
    by_cases h0 : R = 0
    · have hl : (toD R).length = 0 := HZ.out.2 h0
      have hf2 := HHf.out
      rw [if_pos h0] at hf2
      have HF2 := Lib.hid hf2
      rw [hl]
      clear h0 hl hf2
      obtain ⟨A4, c4, rfl, _, _, _⟩ := id HC3.out
      go_wp2
      go_ret2
      exact ⟨_, by rw [HF2.out]; rfl, HC3.out, HS3.out.bl⟩
    · have hne : (toD R).length ≠ 0 := fun e => h0 (HZ.out.1 e)
      have hl : (((toD R).length : Int) == 0) = false := by rw [beq_eq_false_iff_ne]; omega
      have hf2 := HHf.out
      rw [if_neg h0] at hf2
      have HF2 := Lib.hid hf2
      clear hne
      obtain ⟨lr, hlr⟩ : ∃ lr, (toD R).length = lr := ⟨_, rfl⟩
      rw [hlr] at hl HR3 ⊢
      clear h0 hf2 hlr
      go_wp2_with fail
      refine (HSh.out _ _ HR3.out).mono ?_
      rintro e w4 ⟨v4, rfl, hd4, hb4⟩
      have HD4 := Lib.hid hd4
      have HC4 := Lib.hid (HC3.out.below hb4)
      have HS4 := Lib.hid (HS3.out.below hb4)
      clear hd4 hb4 HS3 HC3 HR3
      go_wp2_with fail
      refine (HCm.out _ _ _ HD4.out HS4.out.d).mono ?_
      rintro e w5 ⟨rfl, hb5⟩
      have HC5 := Lib.hid (HC4.out.below hb5)
      have HS5 := Lib.hid (HS4.out.below hb5)
      clear hb5 HS4 HC4 HD4
      obtain ⟨A4, c4, rfl, _, _, _⟩ := id HC5.out
      go_wp2
      go_ret2
      exact ⟨_, by rw [HF2.out]; rfl, HC5.out, HS5.out.bl⟩
  · have e1 : (-q).toNat = 0 := by omega
    simp only [e1, Nat.pow_zero, Nat.mul_one] at *
    have HT := Lib.hid (rten_walk q.toNat (by omega) w)
    obtain ⟨k, rfl⟩ : ∃ k : Nat, q = (k : Int) := ⟨q.toNat, by omega⟩
    simp only [Int.toNat_natCast] at *
    have HM := Lib.hid (fun W v (g : DgAt W dv D) (h : DgAt W v (10 ^ k)) => rprod_walk dv v D (10 ^ k) W g h hND.2.1 hND.2.2.2)
    obtain ⟨M, hM⟩ : ∃ M, D * 10 ^ k = M := ⟨_, rfl⟩
    simp only [hM] at *
    obtain ⟨R, hR⟩ : ∃ R, N % M = R := ⟨_, rfl⟩
    obtain ⟨C, hC⟩ : ∃ C, N / M = C := ⟨_, rfl⟩
    simp only [hR, hC] at *
    obtain ⟨cc, hcc⟩ : ∃ cc, cmpD (R * 2) M = cc := ⟨_, rfl⟩
    simp only [hcc] at *
    have HZ := Lib.hid hz
    clear hn hd hD b1 b2 q1 q2 hbn hbd hp1 hp2 hB0 hhf e1 hM hR hC hA1 hB1 hND hcc hz
    go_enter Tryz.func156, Tryz.ntmps156
    go_wp2_with fail
    refine HT.out.mono ?_
    rintro e w1 ⟨x, rfl, hx, hb1⟩
    have HX := Lib.hid hx
    have HB1 := Lib.hid hb1
    clear hx hb1
    go_wp2_with fail
    refine (HM.out _ _ (HD.out.below HB1.out) HX.out).mono ?_
    rintro e w2 ⟨y, rfl, hy, hb2⟩
    have HS2 := Lib.hid (show FrS w w2 nv y N M from ⟨(HN.out.below HB1.out).below hb2, hy, below_chain HB1.out hb2⟩)
    clear hy hb2 HX HB1
    go_wp2_with fail
    refine (HDM.out _ _ _ HS2.out.n HS2.out.d).mono ?_
    rintro e w3 ⟨cv, rv, rfl, hcv, hrv, hb3⟩
    have HC3 := Lib.hid hcv
    have HR3 := Lib.hid hrv
    have HS3 := Lib.hid (HS2.out.below hb3)
    obtain ⟨A3, c3, rfl, _, _, _⟩ := id hrv
    clear hcv hrv hb3 HS2
    by_cases h0 : R = 0
    · have hl : (toD R).length = 0 := HZ.out.2 h0
      have hf2 := HHf.out
      rw [if_pos h0] at hf2
      have HF2 := Lib.hid hf2
      rw [hl]
      clear h0 hl hf2
      obtain ⟨A4, c4, rfl, _, _, _⟩ := id HC3.out
      go_wp2
      go_ret2
      exact ⟨_, by rw [HF2.out]; rfl, HC3.out, HS3.out.bl⟩
    · have hne : (toD R).length ≠ 0 := fun e => h0 (HZ.out.1 e)
      have hl : (((toD R).length : Int) == 0) = false := by rw [beq_eq_false_iff_ne]; omega
      have hf2 := HHf.out
      rw [if_neg h0] at hf2
      have HF2 := Lib.hid hf2
      clear hne
      obtain ⟨lr, hlr⟩ : ∃ lr, (toD R).length = lr := ⟨_, rfl⟩
      rw [hlr] at hl HR3 ⊢
      clear h0 hf2 hlr
      go_wp2_with fail
      refine (HSh.out _ _ HR3.out).mono ?_
      rintro e w4 ⟨v4, rfl, hd4, hb4⟩
      have HD4 := Lib.hid hd4
      have HC4 := Lib.hid (HC3.out.below hb4)
      have HS4 := Lib.hid (HS3.out.below hb4)
      clear hd4 hb4 HS3 HC3 HR3
      go_wp2_with fail
      refine (HCm.out _ _ _ HD4.out HS4.out.d).mono ?_
      rintro e w5 ⟨rfl, hb5⟩
      have HC5 := Lib.hid (HC4.out.below hb5)
      have HS5 := Lib.hid (HS4.out.below hb5)
      clear hb5 HS4 HC4 HD4
      obtain ⟨A4, c4, rfl, _, _, _⟩ := id HC5.out
      go_wp2
      go_ret2
      exact ⟨_, by rw [HF2.out]; rfl, HC5.out, HS5.out.bl⟩

def nearV (d : Nat) (half : Int) : Nat := if half = 1 ∨ (half = 0 ∧ d % 2 = 1) then d + 1 else d

set_option maxRecDepth 100000 in
theorem rnearer_walk (v : Value) (d : Nat) (half : Int) (w : World) (h : DgAt w v d) (hs : (toD d).length ≤ 30000) :
    Calls Tryz.prog 157 #[v, .int .i64 half] w fun e w' => ∃ x, e = .returned x ∧ DgAt w' x (nearV d half) ∧ Below w.heap.size w w' := by
  have HB := Lib.hid (fun W (h : DgAt W v d) => rbit0_walk v d W h (by omega))
  have HW := Lib.hid (fun W => show Calls Tryz.prog 179 #[.int .u64 1] W fun e w' => ∃ v', e = .returned v' ∧ DgAt w' v' 1 ∧ Below W.heap.size W w' from rword_walk 1 (by decide) W)
  have HA := Lib.hid (fun W o (g : DgAt W v d) (k : DgAt W o 1) => radd_walk v o d 1 W g k (by omega) (by rw [toD_length]; decide))
  have HN := Lib.hid (fun W (h : DgAt W v d) => show Calls Tryz.prog 192 #[v] W fun e w' => ∃ v', e = .returned v' ∧ DgAt w' v' d ∧ Below W.heap.size W w' from by
    have := rnorm_walk v (toD d) W h (We_toD d) (by omega)
    rwa [vd_toD] at this)
  have HD := Lib.hid h
  clear h hs
  by_cases h1 : half = 1
  · subst h1
    have e : nearV d 1 = d + 1 := by unfold nearV; rw [if_pos (.inl rfl)]
    rw [e]
    clear e
    go_enter Tryz.func157, Tryz.ntmps157
    go_wp2_with fail
    refine (HW.out _).mono ?_
    rintro r w1 ⟨o, rfl, ho, hb1⟩
    have HO := Lib.hid ho
    have HB1 := Lib.hid hb1
    have HD1 := Lib.hid (HD.out.below hb1)
    clear ho hb1
    go_wp2_with fail
    refine (HA.out _ _ HD1.out HO.out).mono ?_
    rintro r w2 ⟨x, rfl, hx, hb2⟩
    have HX := Lib.hid hx
    have HB2 := Lib.hid (below_chain HB1.out hb2)
    obtain ⟨A3, c3, rfl, _, _, _⟩ := hx
    clear hb2
    go_wp2
    go_ret
    exact ⟨_, rfl, HX.out, HB2.out⟩
  · have g1 : (half == 1) = false := by rw [beq_eq_false_iff_ne]; exact h1
    by_cases h0 : half = 0
    · subst h0
      by_cases hodd : d % 2 = 1
      · have e : nearV d 0 = d + 1 := by unfold nearV; rw [if_pos (.inr ⟨rfl, hodd⟩)]
        rw [e]
        rw [hodd] at HB
        clear e hodd h1
        go_enter Tryz.func157, Tryz.ntmps157
        go_wp2_with fail
        refine (HB.out _ HD.out).mono ?_
        rintro r w1 ⟨rfl, hw⟩
        (have h := hw.symm); subst h
        clear hw
        go_wp2_with fail
        refine (HW.out _).mono ?_
        rintro r w1 ⟨o, rfl, ho, hb1⟩
        have HO := Lib.hid ho
        have HB1 := Lib.hid hb1
        have HD1 := Lib.hid (HD.out.below hb1)
        clear ho hb1
        go_wp2_with fail
        refine (HA.out _ _ HD1.out HO.out).mono ?_
        rintro r w2 ⟨x, rfl, hx, hb2⟩
        have HX := Lib.hid hx
        have HB2 := Lib.hid (below_chain HB1.out hb2)
        obtain ⟨A3, c3, rfl, _, _, _⟩ := hx
        clear hb2
        go_wp2
        go_ret
        exact ⟨_, rfl, HX.out, HB2.out⟩
      · have hev : d % 2 = 0 := by omega
        have e : nearV d 0 = d := by unfold nearV; rw [if_neg (by omega)]
        rw [e]
        rw [hev] at HB
        clear e hodd hev h1
        go_enter Tryz.func157, Tryz.ntmps157
        go_wp2_with fail
        refine (HB.out _ HD.out).mono ?_
        rintro r w1 ⟨rfl, hw⟩
        (have h := hw.symm); subst h
        clear hw
        go_wp2_with fail
        refine (HN.out _ HD.out).mono ?_
        rintro r w2 ⟨x, rfl, hx, hb2⟩
        have HX := Lib.hid hx
        have HB2 := Lib.hid hb2
        obtain ⟨A3, c3, rfl, _, _, _⟩ := hx
        clear hb2
        go_wp2
        go_ret
        exact ⟨_, rfl, HX.out, HB2.out⟩
    · have g2 : (half == 0) = false := by rw [beq_eq_false_iff_ne]; exact h0
      have e : nearV d half = d := by unfold nearV; rw [if_neg (by omega)]
      rw [e]
      clear e h0 h1
      go_enter Tryz.func157, Tryz.ntmps157
      go_wp2_with fail
      refine (HN.out _ HD.out).mono ?_
      rintro r w2 ⟨x, rfl, hx, hb2⟩
      have HX := Lib.hid hx
      have HB2 := Lib.hid hb2
      obtain ⟨A3, c3, rfl, _, _, _⟩ := hx
      clear hb2
      go_wp2
      go_ret
      exact ⟨_, rfl, HX.out, HB2.out⟩

/-- units and nearer are the program's choice. -/
theorem units_sh {f : Fm} (hf : f.ok) {z m u : Nat} {q : Int} (hm : m * 2 ^ (u + 1) = 2 * vP f z) :
    inA m (f.L + (u : Int)) q / inB (f.L + (u : Int)) q = shL f z q ∧ nearV (shL f z q) (halfC (inA m (f.L + (u : Int)) q) (inB (f.L + (u : Int)) q)) = nrN f z q ∧ (halfC (inA m (f.L + (u : Int)) q) (inB (f.L + (u : Int)) q) = 2 ↔ shR f z q = 0) := by
  have hL : f.L ≤ 0 := Int.le_of_lt (Fm.ok.facts hf).2.2.1
  obtain ⟨h1, h2⟩ := in_units (f := f) (q := q) (x := f.L + (u : Int)) (u := u + 1) (by omega) hL hm
  have hB := inB_pos (f.L + (u : Int)) q
  generalize inA m (f.L + (u : Int)) q = A at *
  generalize inB (f.L + (u : Int)) q = B at *
  obtain ⟨e1, e2, e3⟩ := div_scale (Nat.two_pow_pos _) (Nat.two_pow_pos _) hB h1 h2
  have e1' : A / B = shL f z q := e1
  have e2' : cmpI (2 * (A % B)) B = cmpI (2 * shR f z q) (ufF f q) := e2
  have e3' : A % B = 0 ↔ shR f z q = 0 := e3
  have hDI : cmpD (2 * (A % B)) B = cmpI (2 * shR f z q) (ufF f q) := by rw [← e2']; rfl
  have hF := ufF_pos f q
  refine ⟨e1', ?_, ?_⟩
  · unfold nearV halfC nrN shN
    rw [hDI]
    by_cases h0 : A % B = 0
    · rw [if_pos h0, e3'.1 h0]
      have : cmpI (2 * 0) (ufF f q) = -1 := by unfold cmpI; rw [if_pos (by omega)]
      rw [this]; simp
    · rw [if_neg h0]
      have htb : tb (shL f z q) 0 = decide (shL f z q % 2 = 1) := by unfold tb; rw [Nat.testBit_zero]
      rw [htb]
      rcases cmpI_cases (2 * shR f z q) (ufF f q) with h | h | h <;> rw [h]
      · simp
      · by_cases ho : shL f z q % 2 = 1 <;> simp [ho]
      · simp
  · unfold halfC
    rw [hDI, ← e3']
    by_cases h0 : A % B = 0
    · simp [h0]
    · rw [if_neg h0]
      rcases cmpI_cases (2 * shR f z q) (ufF f q) with h | h | h <;> rw [h] <;> simp [h0]
end Go.Proofs.YtmfjimmodaofdaaGreatDoor
