/- Walks of natdiv: takeMul, giveBack. · Walk of math/bits: Div64 . · Walk of natdiv: trial. -/
import Derived.Test.YtibjogbalmbeeaaGreatDoorU11
import Derived.Test.YtibjogbalmbeeaaGreatDoorU10
import Derived.BigQuiet
import Derived.Deep.DeepCutAuto

namespace Go.Proofs.YtibjogbalmbeeaaGreatDoor
open Go.RowKit

set_option maxRecDepth 100000 in
set_option maxHeartbeats 1000000 in
theorem takeMul_walk (g p c : Nat) (pre post : List Nat) (A : Option Addr) (n cv V R m : Nat) (w : World) (hpre : pre.length = p) (hA : Rd g w A (pad n V)) (hVn : V < W64 ^ n) (hcv : n ≤ cv) (hz : Blk w g (pre ++ (pad (n + 1) R ++ post))) (hR : R < W64 ^ (n + 1)) (hm : m < W64) (hc : n + 1 ≤ c) (hn : n ≤ 20000) (hp : p ≤ 20000) :
    Calls Tryz.prog 131 #[.slice (some ⟨g, p, none⟩) (n + 1) c, .slice A n cv, .int .u64 (m : Int)] w fun e w' => e = .returned (.int .u64 ((if R < m * V then 1 else 0 : Nat) : Int)) ∧ Blk w' g (pre ++ (pad (n + 1) ((R + (W64 ^ (n + 1) - m * V)) % W64 ^ (n + 1)) ++ post)) ∧ KB g w w' := by
  have hPb : m * V ≤ W64 ^ (n + 1) := by
    rw [Nat.pow_succ, Nat.mul_comm]
    exact Nat.mul_le_mul (Nat.le_of_lt hVn) (Nat.le_of_lt hm)
  have htm := take_mul hR hPb
  obtain ⟨X', hX'⟩ : ∃ X', (R + (W64 ^ (n + 1) - m * V)) % W64 ^ (n + 1) = X' := ⟨_, rfl⟩
  have hXl : X' < W64 ^ (n + 1) := by rw [← hX']; exact Nat.mod_lt _ (Nat.pow_pos W64_pos)
  rw [hX'] at htm ⊢
  obtain ⟨o, ho⟩ : ∃ o, (if R < m * V then 1 else 0 : Nat) = o := ⟨_, rfl⟩
  have hox : X' + V * m = R + W64 ^ (n + 1) * o := by
    rw [Nat.mul_comm V m, htm, ← ho]
    split <;> omega
  rw [ho]
  -- the limbs of R are those of X' + V * m
  have hlimb : ∀ i, i ≤ n → (X' + V * m) / W64 ^ i % W64 = R / W64 ^ i % W64 := fun i hi => by rw [hox]; exact acc_low (by omega)
  have hlast : car X' (V * m) (n + 1) = o := by
    have h1 : V * m < W64 ^ (n + 1) := by
      rw [Nat.pow_succ]; exact Nat.mul_lt_mul'' hVn hm
    unfold car
    rw [Nat.mod_eq_of_lt hXl, Nat.mod_eq_of_lt h1, hox, Nat.add_mul_div_left _ _ (Nat.pow_pos W64_pos), Nat.div_eq_of_lt hR, Nat.zero_add]
  have htop : (V * m) / W64 ^ n % W64 = mc 0 V m n := by
    have h1 : mc 0 V m n = (V * m) / W64 ^ n := by unfold mc; rw [Nat.zero_mod, Nat.zero_add, Nat.mod_eq_of_lt hVn]
    have h2 := mc_lt 0 V m n hm
    rw [← h1, Nat.mod_eq_of_lt h2]
  have hs0 : mix (n + 1) 0 X' R = pad (n + 1) R := mix_zero _ _ _
  rw [← hs0] at hz
  have HZ := Lib.hid hz
  have HA := Lib.hid hA
  have HLimb := Lib.hid hlimb
  have HLast := Lib.hid hlast
  have HTop := Lib.hid htop
  have HM := Lib.hid (show n + 1 ≤ c ∧ n ≤ 20000 ∧ p ≤ 20000 ∧ m < W64 ∧ pre.length = p ∧ n ≤ cv from ⟨hc, hn, hp, hm, hpre, hcv⟩)
  have hmc0 := mc_zero 0 V m
  have hcr0 := car_zero X' (V * m)
  have H0 := Lib.hid (show mc 0 V m 0 = 0 ∧ car X' (V * m) 0 = 0 from ⟨hmc0, hcr0⟩)
  clear hPb htm hX' hXl ho hox hlimb hlast htop hs0 hz hA hVn hcv hR hm hc hn hp hpre hmc0 hcr0
  go_enter Tryz.func131, Tryz.ntmps131
  go_wp2_with fail
  go_loopw [7, 8, 15] (fun cy ow i wr => ∃ t : Nat, t ≤ n ∧ i = .int .i64 (t : Int) ∧ cy = .int .u64 ((mc 0 V m t : Nat) : Int) ∧ ow = .int .u64 ((car X' (V * m) t : Nat) : Int) ∧ Hid (Blk wr g (pre ++ (mix (n + 1) t X' R ++ post))) ∧ Hid (KB g w wr)) (fun _ _ i _ => n - (intOf i).toNat)
  case atStart => exact ⟨0, by omega, rfl, by rw [H0.out.1]; rfl, by rw [H0.out.2]; rfl, HZ, Lib.hid (KB.refl g w)⟩
  case round =>
    obtain ⟨t, ht, rfl, rfl, rfl, HT, HK⟩ := hrel
    by_cases htl : t < n
    · have hM := HM.out
      have hti : (t : Int) < (n : Int) := by omega
      obtain ⟨ada, rfl, hga, hca0⟩ := HA.out (by rw [pad_length]; omega)
      have c1 := HK.out.cell (hca0 t (by rw [pad_length]; omega)) (by rw [add_block]; exact hga)
      rw [el_pad htl] at c1
      have hT1 := HT.out
      have hml : t < (mix (n + 1) t X' R).length := by rw [mix_length (by omega)]; omega
      have c3 := hT1.cell (j := p + t) (by rw [List.length_append, List.length_append, hM.2.2.2.2.1]; omega)
      rw [← hM.2.2.2.2.1, el_mid _ _ _ _ hml, el_mix (by omega), if_neg (by omega), hM.2.2.2.2.1, ← HLimb.out t (by omega)] at c3
      have f3 := hT1.frozen (p + t)
      obtain ⟨s1, s2⟩ := mul_step V m t
      obtain ⟨u1, u2⟩ := sub_step X' (V * m) t
      have hcl := mc_lt 0 V m t hM.2.2.2.1
      have hol := car_le X' (V * m) t
      have hvl : V / W64 ^ t % W64 < W64 := Nat.mod_lt _ W64_pos
      have hset := hT1.set (p + t) (X' / W64 ^ t % W64)
      rw [← hM.2.2.2.2.1, set_mid _ _ _ _ _ hml, mix_set (by omega), hM.2.2.2.2.1] at hset
      have hKs := HK.out.set (p + t) (.int .u64 ((X' / W64 ^ t % W64 : Nat) : Int))
      obtain ⟨cn, hcn⟩ : ∃ cn, mc 0 V m (t + 1) = cn := ⟨_, rfl⟩
      obtain ⟨on, hon⟩ : ∃ on, car X' (V * m) (t + 1) = on := ⟨_, rfl⟩
      rw [hcn] at s2
      rw [hon] at u2
      generalize mc 0 V m t = cy at *
      generalize car X' (V * m) t = ow at *
      generalize V / W64 ^ t % W64 = vi at *
      generalize (V * m) / W64 ^ t % W64 = li at *
      generalize (X' + V * m) / W64 ^ t % W64 = zi at *
      generalize X' / W64 ^ t % W64 = zn at *
      have hw := mul_words vi m cy hvl hM.2.2.2.1 hcl
      rw [← s1, ← s2] at hw
      have hm64 := hM.2.2.2.1
      rw [W64_num] at hw hvl hcl hm64 u1
      have hMul := fun W1 => Tryz.bits_Mul64 vi m hvl hm64 W1
      obtain ⟨hi, hhi⟩ : ∃ hi, vi * m / 18446744073709551616 = hi := ⟨_, rfl⟩
      obtain ⟨lo, hlo⟩ : ∃ lo, vi * m % 18446744073709551616 = lo := ⟨_, rfl⟩
      simp only [hhi, hlo] at hMul hw
      have ha1 := fun W1 => Any7.bits_Add64 Tryz.lays7_25 lo cy 0 (by omega) W1
      obtain ⟨k1, hk1⟩ : ∃ k1, (lo + cy) / 18446744073709551616 = k1 := ⟨_, rfl⟩
      simp only [Nat.add_zero, hk1] at ha1 hw
      rw [hw.1] at ha1
      have ha2 := fun W1 => Any7.bits_Sub64 Tryz.lays7_26 zi li ow (by omega) W1
      rw [u1, u2] at ha2
      have HMul := Lib.hid hMul
      have hadd1 : ∀ W1 : World, (callFunc 85 #[.int .u64 (lo : Int), .int .u64 (cy : Int), .int .u64 0]).run Tryz.prog W1 = .ok (.value (.tuple #[.int .u64 (li : Int), .int .u64 (k1 : Int)])) W1 := ha1
      have hsub1 : ∀ W1 : World, (callFunc 161 #[.int .u64 (zi : Int), .int .u64 (li : Int), .int .u64 (ow : Int)]).run Tryz.prog W1 = .ok (.value (.tuple #[.int .u64 (zn : Int), .int .u64 (on : Int)])) W1 := ha2
      have p1 : IntKind.u64.wrap ((hi : Int) + (k1 : Int)) = (cn : Int) := by rw [IntKind.wrap_u64]; omega
      have p4 : IntKind.i64.wrap ((t : Int) + 1) = (t : Int) + 1 := by rw [IntKind.wrap_i64]; omega
      have hti2 : (t : Int) < (n : Int) + 1 := by omega
      have HS := Lib.hid hset
      have HKs := Lib.hid hKs
      have HC := Lib.hid (show mc 0 V m (t + 1) = cn ∧ car X' (V * m) (t + 1) = on from ⟨hcn, hon⟩)
      clear hset hKs hT1 s1 s2 u1 u2 hcl hol hvl hMul ha1 ha2 hw hhi hlo hk1 hcn hon hca0 hM hml hm64
      go_wp2_with fail
      refine (HMul.out _).mono ?_
      rintro e w5 ⟨rfl, rfl⟩
      go_wp2_with fail
      go_roundw
      case rel => exact ⟨t + 1, by omega, by go_num, by rw [HC.out.1], by rw [HC.out.2], HS, HKs⟩
      case measure => simp [intOf]; omega
    · have htl2 : t = n := by omega
      subst htl2
      have hM := HM.out
      have hT1 := HT.out
      have hml : t < (mix (t + 1) t X' R).length := by rw [mix_length (by omega)]; omega
      have c3 := hT1.cell (j := p + t) (by rw [List.length_append, List.length_append, hM.2.2.2.2.1]; omega)
      rw [← hM.2.2.2.2.1, el_mid _ _ _ _ hml, el_mix (by omega), if_neg (by omega), hM.2.2.2.2.1, ← HLimb.out t (by omega)] at c3
      have f3 := hT1.frozen (p + t)
      obtain ⟨u1, u2⟩ := sub_step X' (V * m) t
      have hol := car_le X' (V * m) t
      have hset := hT1.set (p + t) (X' / W64 ^ t % W64)
      rw [← hM.2.2.2.2.1, set_mid _ _ _ _ _ hml, mix_set (by omega), mix_full, hM.2.2.2.2.1] at hset
      have hKs := HK.out.set (p + t) (.int .u64 ((X' / W64 ^ t % W64 : Nat) : Int))
      rw [HLast.out] at u2
      rw [HTop.out] at u1 u2
      generalize mc 0 V m t = cy at *
      generalize car X' (V * m) t = ow at *
      generalize (X' + V * m) / W64 ^ t % W64 = zi at *
      generalize X' / W64 ^ t % W64 = zn at *
      rw [W64_num] at u1
      have ha2 := fun W1 => Any7.bits_Sub64 Tryz.lays7_26 zi cy ow (by omega) W1
      rw [u1, u2] at ha2
      have hsub1 : ∀ W1 : World, (callFunc 161 #[.int .u64 (zi : Int), .int .u64 (cy : Int), .int .u64 (ow : Int)]).run Tryz.prog W1 = .ok (.value (.tuple #[.int .u64 (zn : Int), .int .u64 (o : Int)])) W1 := ha2
      have hti : ¬ (t : Int) < (t : Int) := by omega
      have HS := Lib.hid hset
      have HKs := Lib.hid hKs
      clear hset hKs hT1 u1 u2 hol ha2 hM hml
      go_wp2_with fail
      go_ret
      exact ⟨rfl, HS.out, HKs.out⟩

set_option maxRecDepth 100000 in
set_option maxHeartbeats 1000000 in
theorem giveBack_walk (g p c : Nat) (pre post : List Nat) (A : Option Addr) (n cv V X : Nat) (w : World) (hpre : pre.length = p) (hA : Rd g w A (pad n V)) (hVn : V < W64 ^ n) (hcv : n ≤ cv) (hz : Blk w g (pre ++ (pad (n + 1) X ++ post))) (hX : X < W64 ^ (n + 1)) (hc : n + 1 ≤ c) (hn : n ≤ 20000) (hp : p ≤ 20000) :
    Calls Tryz.prog 132 #[.slice (some ⟨g, p, none⟩) (n + 1) c, .slice A n cv] w fun e w' => e = .returned (.int .u64 (((X + V) / W64 ^ (n + 1) : Nat) : Int)) ∧ Blk w' g (pre ++ (pad (n + 1) (X + V) ++ post)) ∧ KB g w w' := by
  have hVn1 : V < W64 ^ (n + 1) := Nat.lt_of_lt_of_le hVn (Nat.pow_le_pow_right W64_pos (by omega))
  have hlast : car X V (n + 1) = (X + V) / W64 ^ (n + 1) := by unfold car; rw [Nat.mod_eq_of_lt hX, Nat.mod_eq_of_lt hVn1]
  rw [← hlast]
  have htop : V / W64 ^ n % W64 = 0 := by rw [Nat.div_eq_of_lt hVn, Nat.zero_mod]
  have hs0 : mix (n + 1) 0 (X + V) X = pad (n + 1) X := mix_zero _ _ _
  rw [← hs0] at hz
  have HZ := Lib.hid hz
  have HA := Lib.hid hA
  have HTop := Lib.hid htop
  have HM := Lib.hid (show n + 1 ≤ c ∧ n ≤ 20000 ∧ p ≤ 20000 ∧ pre.length = p ∧ n ≤ cv from ⟨hc, hn, hp, hpre, hcv⟩)
  have H0 := Lib.hid (car_zero X V)
  obtain ⟨T, hT⟩ : ∃ T, X + V = T := ⟨_, rfl⟩
  have hst := add_word X V
  rw [hT] at HZ hst ⊢
  have HSt := Lib.hid hst
  clear hVn1 hlast htop hs0 hz hA hVn hcv hX hc hn hp hpre hst hT
  go_enter Tryz.func132, Tryz.ntmps132
  go_wp2_with fail
  go_loopw [5, 9] (fun cy i wr => ∃ t : Nat, t ≤ n ∧ i = .int .i64 (t : Int) ∧ cy = .int .u64 ((car X V t : Nat) : Int) ∧ Hid (Blk wr g (pre ++ (mix (n + 1) t T X ++ post))) ∧ Hid (KB g w wr)) (fun _ i _ => n - (intOf i).toNat)
  case atStart => exact ⟨0, by omega, rfl, by rw [H0.out]; rfl, HZ, Lib.hid (KB.refl g w)⟩
  case round =>
    obtain ⟨t, ht, rfl, rfl, HT, HK⟩ := hrel
    have hM := HM.out
    have hT1 := HT.out
    have hml : t < (mix (n + 1) t T X).length := by rw [mix_length (by omega)]; omega
    have c3 := hT1.cell (j := p + t) (by rw [List.length_append, List.length_append, hM.2.2.2.1]; omega)
    rw [← hM.2.2.2.1, el_mid _ _ _ _ hml, el_mix (by omega), if_neg (by omega), hM.2.2.2.1] at c3
    have f3 := hT1.frozen (p + t)
    obtain ⟨u1, u2⟩ := HSt.out t
    have hol := car_le X V t
    have hset := fun q => (hT1.dn q).set (p + t) (T / W64 ^ t % W64)
    rw [← hM.2.2.2.1, set_mid _ _ _ _ _ hml, mix_set (by omega), hM.2.2.2.1] at hset
    have hKs := fun q => (HK.out.dn q).set (p + t) (.int .u64 ((T / W64 ^ t % W64 : Nat) : Int))
    obtain ⟨on, hon⟩ : ∃ on, car X V (t + 1) = on := ⟨_, rfl⟩
    rw [hon] at u2
    generalize X / W64 ^ t % W64 = zi at *
    generalize T / W64 ^ t % W64 = zn at *
    by_cases htl : t < n
    · have hti : (t : Int) < (n : Int) := by omega
      obtain ⟨ada, rfl, hga, hca0⟩ := HA.out (by rw [pad_length]; omega)
      have c1 := HK.out.cell (hca0 t (by rw [pad_length]; omega)) (by rw [add_block]; exact hga)
      rw [el_pad htl] at c1
      generalize V / W64 ^ t % W64 = vi at *
      generalize car X V t = ow at *
      have ha1 := fun W1 => Any7.bits_Add64 Tryz.lays7_25 zi vi ow (by omega) W1
      rw [u1, u2] at ha1
      have hadd1 : ∀ W1 : World, (callFunc 85 #[.int .u64 (zi : Int), .int .u64 (vi : Int), .int .u64 (ow : Int)]).run Tryz.prog W1 = .ok (.value (.tuple #[.int .u64 (zn : Int), .int .u64 (on : Int)])) W1 := ha1
      have p4 : IntKind.i64.wrap ((t : Int) + 1) = (t : Int) + 1 := by rw [IntKind.wrap_i64]; omega
      have hti2 : (t : Int) < (n : Int) + 1 := by omega
      have HS := Lib.hid hset
      have HKs := Lib.hid hKs
      have HC := Lib.hid hon
      clear hset hKs hT1 u1 u2 hol ha1 hon hca0 hM hml
      go_wp2_with fail
      go_region_with (fail)
      all_goals
        go_wp2_with fail
        go_roundw
        case rel => exact ⟨t + 1, by omega, by go_num, by rw [HC.out], Lib.hid (HS.out _), Lib.hid (HKs.out _)⟩
        case measure => simp [intOf]; omega
    · have htl2 : t = n := by omega
      subst htl2
      rw [HTop.out, Nat.add_zero] at u1 u2
      have ha1 := fun W1 => Any7.bits_Add64 Tryz.lays7_25 zi 0 (car X V t) (by omega) W1
      rw [Nat.add_zero, u1, u2] at ha1
      have HO := Lib.hid hon
      generalize car X V t = ow at *
      have hadd1 : ∀ W1 : World, (callFunc 85 #[.int .u64 (zi : Int), .int .u64 0, .int .u64 (ow : Int)]).run Tryz.prog W1 = .ok (.value (.tuple #[.int .u64 (zn : Int), .int .u64 (on : Int)])) W1 := ha1
      have hti : ¬ (t : Int) < (t : Int) := by omega
      have hset2 := hset 0
      rw [mix_full] at hset2
      have HS := Lib.hid hset2
      have HKs := Lib.hid (hKs 0)
      clear hset hset2 hKs hT1 u1 u2 hol ha1 hM hml hon
      go_wp2_with fail
      go_ret
      exact ⟨by rw [HO.out]; rfl, HS.out, HKs.out⟩
end Go.Proofs.YtibjogbalmbeeaaGreatDoor

namespace Go.Proofs.YtibjogbalmbeeaaGreatDoor
open Go.RowKit

set_option maxRecDepth 100000 in
set_option maxHeartbeats 1000000 in
theorem div64_walk (hi lo y : Nat) (hh : hi < y) (hyb : y < 18446744073709551616) (hlo : lo < 18446744073709551616) (w : World) :
    Calls Tryz.prog 129 #[.int .u64 (hi : Int), .int .u64 (lo : Int), .int .u64 (y : Int)] w fun e w' => e = .returned (.tuple #[.int .u64 (((hi * 18446744073709551616 + lo) / y : Nat) : Int), .int .u64 (((hi * 18446744073709551616 + lo) % y : Nat) : Int)]) ∧ ∃ m, w' = w.drewN m := by
  have c1 : ((y : Int) == 0) = false := by rw [beq_eq_false_iff_ne]; omega
  have c2 : ¬ (y : Int) ≤ (hi : Int) := by omega
  have c3 : ¬ (y : Int) = 0 := by omega
  have c4 : ¬ y = 0 := by omega
  by_cases h0 : hi = 0
  · subst h0
    obtain ⟨q, hq⟩ : ∃ q, lo / y = q := ⟨_, rfl⟩
    obtain ⟨r, hr⟩ : ∃ r, lo % y = r := ⟨_, rfl⟩
    have hql : q ≤ lo := by rw [← hq]; exact Nat.div_le_self _ _
    have hrl : r ≤ lo := by rw [← hr]; exact Nat.mod_le _ _
    have p1 : (lo : Int).tdiv (y : Int) = (q : Int) := by rw [Int.tdiv_eq_ediv_of_nonneg (by omega), ← hq]; rfl
    have p1' : (lo : Int) / (y : Int) = (q : Int) := by rw [← hq]; rfl
    have p2 : (lo : Int).tmod (y : Int) = (r : Int) := by rw [Int.tmod_eq_emod_of_nonneg (by omega), ← hr]; rfl
    have p2' : (lo : Int) % (y : Int) = (r : Int) := by rw [← hr]; rfl
    have p3 : IntKind.u64.wrap (q : Int) = (q : Int) := by rw [IntKind.wrap_u64]; omega
    have p4 : IntKind.u64.wrap (r : Int) = (r : Int) := by rw [IntKind.wrap_u64]; omega
    rw [Nat.zero_mul, Nat.zero_add, hq, hr]
    clear hq hr hql hrl hyb hlo hh
    go_enter Tryz.func129, Tryz.ntmps129
    go_wp2_with fail
    go_quiet (fail)
    go_wp2
    go_ret2
    exact ⟨rfl, _, rfl⟩
  · have c5 : ((hi : Int) == 0) = false := by rw [beq_eq_false_iff_ne]; omega
    have hLz := fun W => Tryz.bits_LeadingZeros64 (y : Int) W (by omega) (by omega)
    rw [Int.toNat_natCast, bitLen_blen (by rw [W64_num]; exact hyb)] at hLz
    have t1 := blen_lo (a := y) (by omega)
    have t2 := blen_hi y
    have t3 := blen_pos (a := y) (by omega)
    have t4 : blen y ≤ 64 := blen_le.2 (by omega)
    obtain ⟨s, hs⟩ : ∃ s, 64 - blen y = s := ⟨_, rfl⟩
    have hs2 : (64 : Int) - ((blen y : Nat) : Int) = (s : Int) := by omega
    have hs63 : s ≤ 63 := by omega
    rw [hs2] at hLz
    have HLz := Lib.hid hLz
    have p1 : IntKind.u64.wrap (s : Int) = (s : Int) := by rw [IntKind.wrap_u64]; omega
    have y1 : 2 ^ 63 ≤ y * 2 ^ s := by
      have e : 2 ^ (blen y - 1) * 2 ^ s = 2 ^ 63 := by rw [← Nat.pow_add]; congr 1; omega
      rw [← e]; exact Nat.mul_le_mul_right _ t1
    have y2 : y * 2 ^ s < 2 ^ 64 := by
      have e : 2 ^ blen y * 2 ^ s = 2 ^ 64 := by rw [← Nat.pow_add]; congr 1; omega
      rw [← e]; exact Nat.mul_lt_mul_of_pos_right t2 (Nat.two_pow_pos _)
    obtain ⟨w1, w2, w3, w4⟩ := div64_words hh hlo hs63 y1 y2
    obtain ⟨Y, hY⟩ : ∃ Y, y * 2 ^ s = Y := ⟨_, rfl⟩
    obtain ⟨h1, hh1⟩ : ∃ h1, hi * 2 ^ s = h1 := ⟨_, rfl⟩
    obtain ⟨l1, hl1⟩ : ∃ l1, lo / 2 ^ (64 - s) = l1 := ⟨_, rfl⟩
    obtain ⟨t, htt⟩ : ∃ t, lo * 2 ^ s % 2 ^ 64 = t := ⟨_, rfl⟩
    rw [hY, hh1, hl1] at w3
    rw [hh1] at w1
    rw [hh1, hl1] at w2
    rw [hh1, hl1, htt] at w4
    rw [hY] at y1 y2
    have hmin : min s 64 = s := Nat.min_eq_left (by omega)
    have htl : t < 2 ^ 64 := by rw [← htt]; exact Nat.mod_lt _ (by omega)
    have hll : l1 < 2 ^ 64 := by rw [← hl1]; exact Nat.lt_of_le_of_lt (Nat.div_le_self _ _) hlo
    have e0 : IntKind.u64.wrap ((y : Int) * 2 ^ (min s 64)) = (Y : Int) := by
      rw [hmin, show (y : Int) * 2 ^ s = ((y * 2 ^ s : Nat) : Int) by simp, hY, IntKind.wrap_u64]; omega
    have e3 : IntKind.u64.wrap ((hi : Int) * 2 ^ (min s 64)) = (h1 : Int) := by
      rw [hmin, show (hi : Int) * 2 ^ s = ((hi * 2 ^ s : Nat) : Int) by simp, hh1, IntKind.wrap_u64]; omega
    have e6 : IntKind.u64.wrap ((lo : Int) * 2 ^ (min s 64)) = (t : Int) := by
      rw [hmin, show (lo : Int) * 2 ^ s = ((lo * 2 ^ s : Nat) : Int) by simp, IntKind.wrap_u64, ← htt]; omega
    have e4 : IntKind.u64.wrap (64 - (s : Int)) = ((64 - s : Nat) : Int) := by rw [IntKind.wrap_u64]; omega
    have e4' : (lo : Int) / 2 ^ (min (IntKind.u64.wrap (64 - (s : Int))).toNat 64) = (l1 : Int) := by
      rw [e4, Int.toNat_natCast, Nat.min_eq_left (by omega), ← hl1]; simp
    have e4'' : (lo : Int) / 2 ^ (64 - s) = (l1 : Int) := by rw [← hl1]; simp
    obtain ⟨u, hu⟩ : ∃ u, h1 + l1 = u := ⟨_, rfl⟩
    have e5 : bits .or .u64 (h1 : Int) (l1 : Int) = (u : Int) := by
      rw [bits_or_u64_nat _ _ (by omega) (by omega), w2, hu]
    rw [hu] at w3 w4
    obtain ⟨Y1, hY1⟩ : ∃ Y1, Y / 4294967296 = Y1 := ⟨_, rfl⟩
    obtain ⟨Y0, hY0⟩ : ∃ Y0, Y % 4294967296 = Y0 := ⟨_, rfl⟩
    obtain ⟨u1, hu1⟩ : ∃ u1, t / 4294967296 = u1 := ⟨_, rfl⟩
    obtain ⟨u0, hu0⟩ : ∃ u0, t % 4294967296 = u0 := ⟨_, rfl⟩
    have f1 : (Y : Int) / 4294967296 = (Y1 : Int) := by omega
    have f2 : bits .and .u64 (Y : Int) 4294967295 = (Y0 : Int) := by
      have := bits_and_u64_nat Y 4294967295 (by omega) (by omega)
      rw [show Y &&& 4294967295 = Y % 4294967296 from Nat.and_two_pow_sub_one_eq_mod Y 32, hY0] at this
      exact this
    have f3 : (t : Int) / 4294967296 = (u1 : Int) := by omega
    have f4 : bits .and .u64 (t : Int) 4294967295 = (u0 : Int) := by
      have := bits_and_u64_nat t 4294967295 (by omega) (by omega)
      rw [show t &&& 4294967295 = t % 4294967296 from Nat.and_two_pow_sub_one_eq_mod t 32, hu0] at this
      exact this
    have hYe : Y = Y1 * 4294967296 + Y0 := by omega
    obtain ⟨d1, d2, d3, d4, d5⟩ := dig_first (y := Y) (un := u) (u1 := u1) hYe (by omega) (by omega) (by omega) (by omega) w3
    obtain ⟨qa, hqa⟩ : ∃ qa, u / Y1 = qa := ⟨_, rfl⟩
    obtain ⟨ra, hra⟩ : ∃ ra, u % Y1 = ra := ⟨_, rfl⟩
    rw [hqa] at d1 d2 d3
    rw [hra] at d3 d4
    have g1 : (u : Int) / (Y1 : Int) = (qa : Int) := by rw [← hqa]; rfl
    have g1' : (u : Int).tdiv (Y1 : Int) = (qa : Int) := by rw [Int.tdiv_eq_ediv_of_nonneg (by omega)]; exact g1
    obtain ⟨qy, hqy⟩ : ∃ qy, qa * Y1 = qy := ⟨_, rfl⟩
    rw [hqy] at d3
    have g2 : IntKind.u64.wrap ((qa : Int) * (Y1 : Int)) = (qy : Int) := by
      rw [show (qa : Int) * (Y1 : Int) = ((qa * Y1 : Nat) : Int) by simp, hqy, IntKind.wrap_u64]; omega
    have g3 : IntKind.u64.wrap ((u : Int) - (qy : Int)) = (ra : Int) := by rw [IntKind.wrap_u64]; omega
    have g4 : ¬ (Y1 : Int) = 0 := by omega
    have g5 : ¬ Y1 = 0 := by omega
    have g6 : IntKind.u64.wrap (qa : Int) = (qa : Int) := by rw [IntKind.wrap_u64]; omega
    have HY := Lib.hid (show (hi * 2 ^ 64 + lo) * 2 ^ s = u * 2 ^ 64 + t ∧ y * 2 ^ s = Y ∧ Y = Y1 * 4294967296 + Y0 ∧ t = u1 * 4294967296 + u0 ∧ u < Y ∧ s ≤ 63 from ⟨w4, hY, hYe, by omega, w3, hs63⟩)
    have HD := Lib.hid (show (u * 4294967296 + u1) / Y ≤ qa ∧ qa ≤ 4294967297 ∧ qa * Y1 + ra = u ∧ ra < Y1 ∧ (u * 4294967296 + u1) / Y < 4294967296 ∧ Y1 < 4294967296 ∧ Y0 < 4294967296 ∧ u1 < 4294967296 ∧ u0 < 4294967296 from ⟨d1, d2, by rw [hqy]; exact d3, d4, d5, by omega, by omega, by omega, by omega⟩)
    have HB := Lib.hid (show 4294967296 ≤ 2 * Y1 by omega)
    clear hLz t1 t2 t3 t4 hs hs2 hs63 hh hyb hlo h0 y1 y2 w1 w2 w3 w4 hY hh1 hl1 htt hmin htl hll hu hY1 hY0 hu1 hu0 hYe d1 d2 d3 d4 d5 hqa hra hqy
    go_enter Tryz.func129, Tryz.ntmps129
    go_wp2_with fail
    refine (HLz.out _).mono ?_
    rintro e w1 ⟨rfl, rfl⟩
    obtain ⟨q1, hq1⟩ : ∃ q1, (u * 4294967296 + u1) / Y = q1 := ⟨_, rfl⟩
    have HQ1 := Lib.hid hq1
    have hd := HD.out
    rw [hq1] at hd
    have HD1 := Lib.hid (show Y = Y1 * 4294967296 + Y0 ∧ 0 < Y from ⟨HY.out.2.2.1, by have := HY.out.2.2.2.2.1; omega⟩)
    clear hd
    go_upto_block 0 with fail
    go_cut [15] (fun s15 wx => s15 = .int .u64 (q1 : Int) ∧ wx = w1)
    case first =>
      go_wp2_with fail
      go_loopw [15, 16] (fun a b wr => ∃ qh rh : Nat, a = .int .u64 (qh : Int) ∧ b = .int .u64 (rh : Int) ∧ q1 ≤ qh ∧ qh ≤ 4294967297 ∧ qh * Y1 + rh = u ∧ rh < 4294967296 ∧ wr = w1) (fun a _ _ => (intOf a).toNat)
      case atStart =>
        have hd := HD.out
        exact ⟨qa, ra, rfl, rfl, by rw [← HQ1.out]; exact hd.1, hd.2.1, hd.2.2.1, by omega, rfl⟩
      case round =>
        obtain ⟨qh, rh, rfl, rfl, k1, k2, k3, k4, rfl⟩ := hrel
        have hd := HD.out
        rw [HQ1.out] at hd
        obtain ⟨z1, hz1⟩ : ∃ z1, qh * Y0 = z1 := ⟨_, rfl⟩
        obtain ⟨z2, hz2⟩ : ∃ z2, 4294967296 * rh = z2 := ⟨_, rfl⟩
        obtain ⟨z3, hz3⟩ : ∃ z3, z2 + u1 = z3 := ⟨_, rfl⟩
        obtain ⟨r2, hr2⟩ : ∃ r2, rh + Y1 = r2 := ⟨_, rfl⟩
        obtain ⟨qd, hqd⟩ : ∃ qd, qh - 1 = qd := ⟨_, rfl⟩
        have m2 : IntKind.u64.wrap (4294967296 * (rh : Int)) = (z2 : Int) := by rw [IntKind.wrap_u64]; omega
        have m3 : IntKind.u64.wrap ((z2 : Int) + (u1 : Int)) = (z3 : Int) := by rw [IntKind.wrap_u64]; omega
        have m5 : IntKind.u64.wrap ((rh : Int) + (Y1 : Int)) = (r2 : Int) := by rw [IntKind.wrap_u64]; omega
        have hdown : (4294967296 ≤ qh ∨ z3 < z1) → q1 ≤ qd ∧ 1 ≤ qh ∧ qd * Y1 + r2 = u := fun h => by
          have := dig_down (u1 := u1) HD1.out.1 HD1.out.2 k3 (by rw [HQ1.out]; exact hd.2.2.2.2.1) (by rw [HQ1.out]; exact k1) (by rw [hz1, hz2, hz3]; exact h)
          rw [HQ1.out, hqd, hr2] at this
          exact this
        have hbrk : q1 ≤ qd → qd * Y1 + r2 = u → 1 ≤ qh → 4294967296 ≤ r2 → qd = q1 := fun a b c d => by
          have := dig_break (u1 := u1) HD1.out.1 HD1.out.2 hd.2.2.2.2.2.2.1 b (by rw [HQ1.out]; exact a) (by omega) d
          rw [HQ1.out] at this
          exact this
        have hdone : ¬ z3 < z1 → qh = q1 := fun h => by
          have := dig_done (u1 := u1) HD1.out.1 HD1.out.2 k3 (by rw [HQ1.out]; exact k1) (by rw [hz1, hz2, hz3]; omega)
          rw [HQ1.out] at this
          exact this
        have hz1b : qh < 4294967296 → IntKind.u64.wrap ((qh : Int) * (Y0 : Int)) = (z1 : Int) := fun h => by
          have hh : qh * Y0 ≤ 4294967295 * 4294967295 := Nat.mul_le_mul (by omega) (by omega)
          rw [show (qh : Int) * (Y0 : Int) = ((qh * Y0 : Nat) : Int) by simp, hz1, IntKind.wrap_u64]
          omega
        have hrb : r2 < 8589934592 := by omega
        clear hz1 hz2 hz3 hr2 hd k1 k3 k4
        by_cases hA : 4294967296 ≤ qh
        · obtain ⟨n1, n2, n3⟩ := hdown (.inl hA)
          have hAi : (4294967296 : Int) ≤ (qh : Int) := by omega
          have m4 : IntKind.u64.wrap ((qh : Int) - 1) = (qd : Int) := by rw [IntKind.wrap_u64]; omega
          by_cases hR : 4294967296 ≤ r2
          · have hRi : (4294967296 : Int) ≤ (r2 : Int) := by omega
            have hq := hbrk n1 n3 n2 hR
            have HQ := Lib.hid hq
            clear hdown hbrk hdone hz1b n1 n3 hq
            go_wp2_with fail
            go_meet
            exact ⟨by rw [HQ.out], rfl⟩
          · have hRi : ¬ (4294967296 : Int) ≤ (r2 : Int) := by omega
            have HN := Lib.hid (show q1 ≤ qd ∧ qd ≤ 4294967297 ∧ qd * Y1 + r2 = u ∧ r2 < 4294967296 ∧ qd < qh from ⟨n1, by omega, n3, by omega, by omega⟩)
            clear hdown hbrk hdone hz1b n1 n3
            go_wp2_with fail
            go_roundw
            case rel => exact ⟨qd, r2, rfl, rfl, HN.out.1, HN.out.2.1, HN.out.2.2.1, HN.out.2.2.2.1, by first | rfl | trivial | simp⟩
            case measure => have := HN.out.2.2.2.2; simp [intOf]; omega
        · have hAi : ¬ (4294967296 : Int) ≤ (qh : Int) := by omega
          have m1 := hz1b (by omega)
          by_cases hC : z3 < z1
          · have hCi : (z3 : Int) < (z1 : Int) := by omega
            obtain ⟨n1, n2, n3⟩ := hdown (.inr hC)
            have m4 : IntKind.u64.wrap ((qh : Int) - 1) = (qd : Int) := by rw [IntKind.wrap_u64]; omega
            by_cases hR : 4294967296 ≤ r2
            · have hRi : (4294967296 : Int) ≤ (r2 : Int) := by omega
              have hq := hbrk n1 n3 n2 hR
              have HQ := Lib.hid hq
              clear hdown hbrk hdone hz1b n1 n3 hq
              go_wp2_with fail
              go_meet
              exact ⟨by rw [HQ.out], rfl⟩
            · have hRi : ¬ (4294967296 : Int) ≤ (r2 : Int) := by omega
              have HN := Lib.hid (show q1 ≤ qd ∧ qd ≤ 4294967297 ∧ qd * Y1 + r2 = u ∧ r2 < 4294967296 ∧ qd < qh from ⟨n1, by omega, n3, by omega, by omega⟩)
              clear hdown hbrk hdone hz1b n1 n3
              go_wp2_with fail
              go_roundw
              case rel => exact ⟨qd, r2, rfl, rfl, HN.out.1, HN.out.2.1, HN.out.2.2.1, HN.out.2.2.2.1, by first | rfl | trivial | simp⟩
              case measure => have := HN.out.2.2.2.2; simp [intOf]; omega
          · have hCi : ¬ (z3 : Int) < (z1 : Int) := by omega
            have hq := hdone hC
            have HQ := Lib.hid hq
            clear hdown hbrk hdone hz1b hq
            go_wp2_with fail
            go_meet
            exact ⟨by rw [HQ.out], rfl⟩
    case rest =>
      obtain ⟨rfl, hwx⟩ := hcut
      have hwy := hwx.symm
      subst hwy
      have hd := HD.out
      have hy := HY.out
      rw [HQ1.out] at hd
      have hN1 := Nat.div_add_mod (u * 4294967296 + u1) Y
      have hvl := Nat.mod_lt (u * 4294967296 + u1) HD1.out.2
      rw [HQ1.out] at hN1
      obtain ⟨v, hv⟩ : ∃ v, (u * 4294967296 + u1) % Y = v := ⟨_, rfl⟩
      rw [hv] at hN1 hvl
      obtain ⟨z, hz⟩ : ∃ z, q1 * Y = z := ⟨_, rfl⟩
      rw [Nat.mul_comm Y, hz] at hN1
      obtain ⟨x1, hx1⟩ : ∃ x1, u * 4294967296 % 18446744073709551616 = x1 := ⟨_, rfl⟩
      obtain ⟨x2, hx2⟩ : ∃ x2, (x1 + u1) % 18446744073709551616 = x2 := ⟨_, rfl⟩
      obtain ⟨x3, hx3⟩ : ∃ x3, z % 18446744073709551616 = x3 := ⟨_, rfl⟩
      have a1 : IntKind.u64.wrap ((u : Int) * 4294967296) = (x1 : Int) := by rw [IntKind.wrap_u64]; omega
      have a2 : IntKind.u64.wrap ((x1 : Int) + (u1 : Int)) = (x2 : Int) := by rw [IntKind.wrap_u64]; omega
      have a3 : IntKind.u64.wrap ((q1 : Int) * (Y : Int)) = (x3 : Int) := by
        rw [show (q1 : Int) * (Y : Int) = ((q1 * Y : Nat) : Int) by simp, hz, IntKind.wrap_u64]; omega
      have a4 : IntKind.u64.wrap ((x2 : Int) - (x3 : Int)) = (v : Int) := by rw [IntKind.wrap_u64]; omega
      obtain ⟨d1, d2, d3, d4, d5⟩ := dig_first (y := Y) (un := v) (u1 := u0) HD1.out.1 (by omega) HB.out (by omega) (by omega) hvl
      obtain ⟨qb, hqb⟩ : ∃ qb, v / Y1 = qb := ⟨_, rfl⟩
      obtain ⟨rb, hrb⟩ : ∃ rb, v % Y1 = rb := ⟨_, rfl⟩
      rw [hqb] at d1 d2 d3
      rw [hrb] at d3 d4
      have g1 : (v : Int) / (Y1 : Int) = (qb : Int) := by rw [← hqb]; rfl
      have g1' : (v : Int).tdiv (Y1 : Int) = (qb : Int) := by rw [Int.tdiv_eq_ediv_of_nonneg (by omega)]; exact g1
      obtain ⟨qz, hqz⟩ : ∃ qz, qb * Y1 = qz := ⟨_, rfl⟩
      rw [hqz] at d3
      have g2 : IntKind.u64.wrap ((qb : Int) * (Y1 : Int)) = (qz : Int) := by
        rw [show (qb : Int) * (Y1 : Int) = ((qb * Y1 : Nat) : Int) by simp, hqz, IntKind.wrap_u64]; omega
      have g3 : IntKind.u64.wrap ((v : Int) - (qz : Int)) = (rb : Int) := by rw [IntKind.wrap_u64]; omega
      have g6 : IntKind.u64.wrap (qb : Int) = (qb : Int) := by rw [IntKind.wrap_u64]; omega
      obtain ⟨q0, hq0⟩ : ∃ q0, (v * 4294967296 + u0) / Y = q0 := ⟨_, rfl⟩
      have HQ0 := Lib.hid hq0
      have HE := Lib.hid (show (v * 4294967296 + u0) / Y ≤ qb ∧ qb ≤ 4294967297 ∧ qb * Y1 + rb = v ∧ rb < Y1 ∧ (v * 4294967296 + u0) / Y < 4294967296 ∧ Y1 < 4294967296 ∧ Y0 < 4294967296 ∧ u0 < 4294967296 from ⟨d1, d2, by rw [hqz]; exact d3, d4, d5, by omega, by omega, by omega⟩)
      have HV := Lib.hid (show u * 4294967296 + u1 = q1 * Y + v ∧ v < Y ∧ q1 < 4294967296 from ⟨by rw [hz]; omega, hvl, hd.2.2.2.2.1⟩)
      have g5 : ¬ Y1 = 0 := by omega
      have g4 : ¬ (Y1 : Int) = 0 := by omega
      clear hd hy hN1 hvl hv hz hx1 hx2 hx3 d1 d2 d3 d4 d5 hqb hrb hqz hq0
      go_upto_block 2 with fail
      go_cut [18] (fun s18 wx => s18 = .int .u64 (q0 : Int) ∧ wx = w1)
      case first =>
        go_wp2_with fail
        go_loopw [18, 16] (fun a b wr => ∃ qh rh : Nat, a = .int .u64 (qh : Int) ∧ b = .int .u64 (rh : Int) ∧ q0 ≤ qh ∧ qh ≤ 4294967297 ∧ qh * Y1 + rh = v ∧ rh < 4294967296 ∧ wr = w1) (fun a _ _ => (intOf a).toNat)
        case atStart =>
          have hd := HE.out
          exact ⟨qb, rb, rfl, rfl, by rw [← HQ0.out]; exact hd.1, hd.2.1, hd.2.2.1, by omega, rfl⟩
        case round =>
          obtain ⟨qh, rh, rfl, rfl, k1, k2, k3, k4, rfl⟩ := hrel
          have hd := HE.out
          rw [HQ0.out] at hd
          obtain ⟨z1, hz1⟩ : ∃ z1, qh * Y0 = z1 := ⟨_, rfl⟩
          obtain ⟨z2, hz2⟩ : ∃ z2, 4294967296 * rh = z2 := ⟨_, rfl⟩
          obtain ⟨z3, hz3⟩ : ∃ z3, z2 + u0 = z3 := ⟨_, rfl⟩
          obtain ⟨r2, hr2⟩ : ∃ r2, rh + Y1 = r2 := ⟨_, rfl⟩
          obtain ⟨qd, hqd⟩ : ∃ qd, qh - 1 = qd := ⟨_, rfl⟩
          have m2 : IntKind.u64.wrap (4294967296 * (rh : Int)) = (z2 : Int) := by rw [IntKind.wrap_u64]; omega
          have m3 : IntKind.u64.wrap ((z2 : Int) + (u0 : Int)) = (z3 : Int) := by rw [IntKind.wrap_u64]; omega
          have m5 : IntKind.u64.wrap ((rh : Int) + (Y1 : Int)) = (r2 : Int) := by rw [IntKind.wrap_u64]; omega
          have hdown : (4294967296 ≤ qh ∨ z3 < z1) → q0 ≤ qd ∧ 1 ≤ qh ∧ qd * Y1 + r2 = v := fun h => by
            have := dig_down (u1 := u0) HD1.out.1 HD1.out.2 k3 (by rw [HQ0.out]; exact hd.2.2.2.2.1) (by rw [HQ0.out]; exact k1) (by rw [hz1, hz2, hz3]; exact h)
            rw [HQ0.out, hqd, hr2] at this
            exact this
          have hbrk : q0 ≤ qd → qd * Y1 + r2 = v → 1 ≤ qh → 4294967296 ≤ r2 → qd = q0 := fun a b c d => by
            have := dig_break (u1 := u0) HD1.out.1 HD1.out.2 hd.2.2.2.2.2.2.1 b (by rw [HQ0.out]; exact a) (by omega) d
            rw [HQ0.out] at this
            exact this
          have hdone : ¬ z3 < z1 → qh = q0 := fun h => by
            have := dig_done (u1 := u0) HD1.out.1 HD1.out.2 k3 (by rw [HQ0.out]; exact k1) (by rw [hz1, hz2, hz3]; omega)
            rw [HQ0.out] at this
            exact this
          have hz1b : qh < 4294967296 → IntKind.u64.wrap ((qh : Int) * (Y0 : Int)) = (z1 : Int) := fun h => by
            have hh : qh * Y0 ≤ 4294967295 * 4294967295 := Nat.mul_le_mul (by omega) (by omega)
            rw [show (qh : Int) * (Y0 : Int) = ((qh * Y0 : Nat) : Int) by simp, hz1, IntKind.wrap_u64]
            omega
          have hrb : r2 < 8589934592 := by omega
          clear hz1 hz2 hz3 hr2 hd k1 k3 k4
          by_cases hA : 4294967296 ≤ qh
          · obtain ⟨n1, n2, n3⟩ := hdown (.inl hA)
            have hAi : (4294967296 : Int) ≤ (qh : Int) := by omega
            have m4 : IntKind.u64.wrap ((qh : Int) - 1) = (qd : Int) := by rw [IntKind.wrap_u64]; omega
            by_cases hR : 4294967296 ≤ r2
            · have hRi : (4294967296 : Int) ≤ (r2 : Int) := by omega
              have hq := hbrk n1 n3 n2 hR
              have HQ := Lib.hid hq
              clear hdown hbrk hdone hz1b n1 n3 hq
              go_wp2_with fail
              go_meet
              exact ⟨by rw [HQ.out], rfl⟩
            · have hRi : ¬ (4294967296 : Int) ≤ (r2 : Int) := by omega
              have HN := Lib.hid (show q0 ≤ qd ∧ qd ≤ 4294967297 ∧ qd * Y1 + r2 = v ∧ r2 < 4294967296 ∧ qd < qh from ⟨n1, by omega, n3, by omega, by omega⟩)
              clear hdown hbrk hdone hz1b n1 n3
              go_wp2_with fail
              go_roundw
              case rel => exact ⟨qd, r2, rfl, rfl, HN.out.1, HN.out.2.1, HN.out.2.2.1, HN.out.2.2.2.1, by first | rfl | trivial | simp⟩
              case measure => have := HN.out.2.2.2.2; simp [intOf]; omega
          · have hAi : ¬ (4294967296 : Int) ≤ (qh : Int) := by omega
            have m1 := hz1b (by omega)
            by_cases hC : z3 < z1
            · have hCi : (z3 : Int) < (z1 : Int) := by omega
              obtain ⟨n1, n2, n3⟩ := hdown (.inr hC)
              have m4 : IntKind.u64.wrap ((qh : Int) - 1) = (qd : Int) := by rw [IntKind.wrap_u64]; omega
              by_cases hR : 4294967296 ≤ r2
              · have hRi : (4294967296 : Int) ≤ (r2 : Int) := by omega
                have hq := hbrk n1 n3 n2 hR
                have HQ := Lib.hid hq
                clear hdown hbrk hdone hz1b n1 n3 hq
                go_wp2_with fail
                go_meet
                exact ⟨by rw [HQ.out], rfl⟩
              · have hRi : ¬ (4294967296 : Int) ≤ (r2 : Int) := by omega
                have HN := Lib.hid (show q0 ≤ qd ∧ qd ≤ 4294967297 ∧ qd * Y1 + r2 = v ∧ r2 < 4294967296 ∧ qd < qh from ⟨n1, by omega, n3, by omega, by omega⟩)
                clear hdown hbrk hdone hz1b n1 n3
                go_wp2_with fail
                go_roundw
                case rel => exact ⟨qd, r2, rfl, rfl, HN.out.1, HN.out.2.1, HN.out.2.2.1, HN.out.2.2.2.1, by first | rfl | trivial | simp⟩
                case measure => have := HN.out.2.2.2.2; simp [intOf]; omega
            · have hCi : ¬ (z3 : Int) < (z1 : Int) := by omega
              have hq := hdone hC
              have HQ := Lib.hid hq
              clear hdown hbrk hdone hz1b hq
              go_wp2_with fail
              go_meet
              exact ⟨by rw [HQ.out], rfl⟩
      case rest =>
        obtain ⟨rfl, hwx⟩ := hcut
        have hwy := hwx.symm
        subst hwy
        have hy := HY.out
        have hv := HV.out
        have he := HE.out
        rw [HQ0.out] at he
        have hN2 := Nat.div_add_mod (v * 4294967296 + u0) Y
        have hrl := Nat.mod_lt (v * 4294967296 + u0) HD1.out.2
        rw [HQ0.out] at hN2
        obtain ⟨rr, hrr⟩ : ∃ rr, (v * 4294967296 + u0) % Y = rr := ⟨_, rfl⟩
        rw [hrr] at hN2 hrl
        obtain ⟨z, hz⟩ : ∃ z, q0 * Y = z := ⟨_, rfl⟩
        rw [Nat.mul_comm Y, hz] at hN2
        obtain ⟨x1, hx1⟩ : ∃ x1, v * 4294967296 % 18446744073709551616 = x1 := ⟨_, rfl⟩
        obtain ⟨x2, hx2⟩ : ∃ x2, (x1 + u0) % 18446744073709551616 = x2 := ⟨_, rfl⟩
        obtain ⟨x3, hx3⟩ : ∃ x3, z % 18446744073709551616 = x3 := ⟨_, rfl⟩
        have a1 : IntKind.u64.wrap ((v : Int) * 4294967296) = (x1 : Int) := by rw [IntKind.wrap_u64]; omega
        have a2 : IntKind.u64.wrap ((x1 : Int) + (u0 : Int)) = (x2 : Int) := by rw [IntKind.wrap_u64]; omega
        have a3 : IntKind.u64.wrap ((q0 : Int) * (Y : Int)) = (x3 : Int) := by
          rw [show (q0 : Int) * (Y : Int) = ((q0 * Y : Nat) : Int) by simp, hz, IntKind.wrap_u64]; omega
        have hYb : Y < 18446744073709551616 := by omega
        have a4 : IntKind.u64.wrap ((x2 : Int) - (x3 : Int)) = (rr : Int) := by rw [IntKind.wrap_u64]; omega
        obtain ⟨k1, hk1⟩ : ∃ k1, q1 * 4294967296 = k1 := ⟨_, rfl⟩
        obtain ⟨Qn, hQn⟩ : ∃ Qn, k1 + q0 = Qn := ⟨_, rfl⟩
        have b1 : IntKind.u64.wrap ((q1 : Int) * 4294967296) = (k1 : Int) := by rw [IntKind.wrap_u64]; omega
        have b2 : IntKind.u64.wrap ((k1 : Int) + (q0 : Int)) = (Qn : Int) := by rw [IntKind.wrap_u64]; omega
        obtain ⟨R, hR⟩ : ∃ R, rr / 2 ^ s = R := ⟨_, rfl⟩
        have b3 : (rr : Int) / 2 ^ (min s 64) = (R : Int) := by rw [Nat.min_eq_left (by omega), ← hR]; simp
        have b3' : (rr : Int) / 2 ^ s = (R : Int) := by rw [← hR]; simp
        have hend : (hi * 18446744073709551616 + lo) * 2 ^ s = Qn * (y * 2 ^ s) + rr := by
          rw [hy.2.1]
          have h1 : (hi * 18446744073709551616 + lo) * 2 ^ s = u * 18446744073709551616 + t := hy.1
          have h2 := hv.1
          have h3 := hy.2.2.2.1
          have e2 : (k1 + q0) * Y = q1 * Y * 4294967296 + z := by rw [Nat.add_mul, hz, ← hk1, Nat.mul_right_comm]
          rw [h1, ← hQn, e2]
          exact div64_sum h3 h2 hN2
        obtain ⟨r1, r2⟩ := div64_end hend (by rw [hy.2.1]; exact hrl)
        rw [hR] at r2
        have i1 : ((hi : Int) * 18446744073709551616 + (lo : Int)) / (y : Int) = (Qn : Int) := by rw [← r1]; simp
        have i2 : ((hi : Int) * 18446744073709551616 + (lo : Int)) % (y : Int) = (R : Int) := by rw [← r2]; simp
        have HR := Lib.hid (show ((hi : Int) * 18446744073709551616 + (lo : Int)) / (y : Int) = (Qn : Int) ∧ ((hi : Int) * 18446744073709551616 + (lo : Int)) % (y : Int) = (R : Int) from ⟨i1, i2⟩)
        clear hy hv he hN2 hrl hrr hz hx1 hx2 hx3 hk1 hQn hR hend r1 r2 hYb i1 i2
        go_wp2
        go_ret2
        exact ⟨by first | (rw [HR.out.1, HR.out.2]; rfl) | (simp only [Int.natCast_ediv, Int.natCast_emod, Int.natCast_add, Int.natCast_mul, Int.cast_ofNat_Int]; rw [HR.out.1, HR.out.2]; rfl), 0, rfl⟩
end Go.Proofs.YtibjogbalmbeeaaGreatDoor

namespace Go.Proofs.YtibjogbalmbeeaaGreatDoor
open Go.RowKit

set_option maxRecDepth 100000 in
theorem trial_walk (hi lo d : Nat) (hlo : lo < W64) (hd : d < W64) (w : World) :
    Calls Tryz.prog 130 #[.int .u64 (hi : Int), .int .u64 (lo : Int), .int .u64 (d : Int)] w fun e w' => e = .returned (.int .u64 ((if d ≤ hi then W64 - 1 else (hi * W64 + lo) / d : Nat) : Int)) ∧ ∃ m, w' = w.drewN m := by
  rw [W64_num] at *
  by_cases h : d ≤ hi
  · have hi1 : (d : Int) ≤ (hi : Int) := by omega
    rw [if_pos h]
    clear hlo hd h
    go_enter Tryz.func130, Tryz.ntmps130
    go_wp2
    go_ret
    exact ⟨rfl, 0, rfl⟩
  · have hi1 : ¬ (d : Int) ≤ (hi : Int) := by omega
    rw [if_neg h]
    have hD := fun W => div64_walk hi lo d (by omega) hd hlo W
    obtain ⟨q, hq⟩ : ∃ q, (hi * 18446744073709551616 + lo) / d = q := ⟨_, rfl⟩
    obtain ⟨r, hr⟩ : ∃ r, (hi * 18446744073709551616 + lo) % d = r := ⟨_, rfl⟩
    simp only [hq, hr] at hD
    rw [hq]
    have HD := Lib.hid hD
    clear hD hq hr hlo hd h
    go_enter Tryz.func130, Tryz.ntmps130
    go_wp2_with fail
    refine (HD.out _).mono ?_
    rintro e w1 ⟨rfl, m, rfl⟩
    go_wp2
    go_ret
    exact ⟨rfl, m, rfl⟩
end Go.Proofs.YtibjogbalmbeeaaGreatDoor
