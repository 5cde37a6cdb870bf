/- Walks of gnomonref01: Pow2, Small, Bit (of place 0). · Walks of gnomonref11: number, parts, reaches, power, units, nearer. -/
import Derived.Test.YtmfjimmodaofdaaGreatDoorA4
import Derived.Test.YtmfjimmodaofdaaGreatDoorVk
import Derived.Test.YtmfjimmodaofdaaGreatDoorVn
import Derived.Test.YtmfjimmodaofdaaGreatDoorEk
namespace Go.Proofs.YtmfjimmodaofdaaGreatDoor
open Go.RowKit

set_option maxRecDepth 100000 in
theorem rpow2_walk (n : Int) (h0 : 0 ≤ n) (h1 : n ≤ 100000) (w : World) :
    Calls Tryz.prog 183 #[.int .i64 n] w fun e w' => ∃ v, e = .returned v ∧ DgAt w' v (2 ^ n.toNat) ∧ Below w.heap.size w w' := by
  have HW := Lib.hid (show Calls Tryz.prog 179 #[.int .u64 1] w fun e w' => ∃ v', e = .returned v' ∧ DgAt w' v' 1 ∧ Below w.heap.size w w' from rword_walk 1 (by decide) w)
  have HS := Lib.hid (fun W v (h : DgAt W v 1) => rshl_walk v 1 n W h h0 (by omega) (by rw [toD_length]; decide))
  simp only [Nat.one_mul] at HS
  clear h0 h1
  go_enter Tryz.func183, Tryz.ntmps183
  go_wp2_with fail
  refine HW.out.mono ?_
  rintro r w1 ⟨v1, rfl, hd1, hb1⟩
  have HD1 := Lib.hid hd1
  have HB1 := Lib.hid hb1
  clear hd1 hb1
  go_wp2_with fail
  refine (HS.out _ _ HD1.out).mono ?_
  rintro r w2 ⟨v2, rfl, hd2, hb2⟩
  have HD2 := Lib.hid hd2
  have HB2 := Lib.hid (below_chain HB1.out hb2)
  obtain ⟨A2, c2, rfl, hc2, hz2, hr2⟩ := hd2
  clear hc2 hz2 hr2 hb2
  go_wp2
  go_ret
  exact ⟨_, rfl, HD2.out, HB2.out⟩

set_option maxRecDepth 100000 in
theorem rsmall_walk (n : Nat) (h1 : n ≤ 1000000) (w : World) :
    Calls Tryz.prog 209 #[.int .i64 (n : Int)] w fun e w' => ∃ v, e = .returned v ∧ DgAt w' v n ∧ Below w.heap.size w w' := by
  have HW := Lib.hid (rword_walk n (by omega) w)
  have k1 : IntKind.u64.wrap (n : Int) = (n : Int) := by rw [IntKind.wrap_u64]; omega
  have k2 : ¬ (n : Int) < 0 := by omega
  clear h1
  go_enter Tryz.func209, Tryz.ntmps209
  go_wp2_with fail
  refine HW.out.mono ?_
  rintro r w2 ⟨v2, rfl, hd2, hb2⟩
  have HD2 := Lib.hid hd2
  have HB2 := Lib.hid hb2
  obtain ⟨A2, c2, rfl, hc2, hz2, hr2⟩ := hd2
  clear hc2 hz2 hr2 hb2
  go_wp2
  go_ret
  exact ⟨_, rfl, HD2.out, HB2.out⟩

theorem bits_and_one32 (x : Nat) (hx : x < 4294967296) : bits BinOp.and IntKind.u32 (x : Int) 1 = ((x % 2 : Nat) : Int) := by
  have h1 : (BitVec.ofInt 32 (x : Int)).toNat = x := by
    rw [BitVec.ofInt_natCast, BitVec.toNat_ofNat]; exact Nat.mod_eq_of_lt (by omega)
  have h2 : (BitVec.ofInt 32 (1 : Int)).toNat = 1 := rfl
  show IntKind.u32.wrap ((BitVec.ofInt 32 (x : Int) &&& BitVec.ofInt 32 (1 : Int)).toNat : Int) = _
  rw [BitVec.toNat_and, h1, h2, Nat.and_one_is_mod, IntKind.wrap_u32]
  omega

set_option maxRecDepth 100000 in
theorem rbit0_walk (v : Value) (d : Nat) (w : World) (h : DgAt w v d) (hs : (toD d).length ≤ 40000) :
    Calls Tryz.prog 191 #[v, .int .i64 0] w fun e w' => e = .returned (.int .i64 ((d % 2 : Nat) : Int)) ∧ w' = w := by
  have hz := toD_length_zero d
  have he := el_toD d 0
  have hlt := eD_lt (We_toD d) 0
  obtain ⟨A, c, rfl, _, _, hr⟩ := h
  obtain ⟨k, hk⟩ : ∃ k, (toD d).length = k := ⟨_, rfl⟩
  have hr2 := hr
  unfold RdD at hr2
  rw [hk] at hz hs hr2 ⊢
  by_cases h0 : k = 0
  · have hd0 : d = 0 := hz.1 h0
    subst hd0
    subst h0
    clear hz he hlt hr hr2 hk hs
    go_enter Tryz.func191, Tryz.ntmps191
    go_wp2_with fail
    go_ret
    exact ⟨rfl, rfl⟩
  · obtain ⟨ad, rfl, hcl⟩ := hr2 (by omega)
    have c0 := hcl 0 (by omega)
    rw [show ad.add 0 = ad by simp [Addr.add], he, Nat.pow_zero, Nat.div_one] at c0
    rw [he, Nat.pow_zero, Nat.div_one] at hlt
    obtain ⟨x, hx⟩ : ∃ x, d % W32 = x := ⟨_, rfl⟩
    have hx2 : d % 2 = x % 2 := by
      rw [← hx, W32_num]; omega
    rw [hx] at c0 hlt
    rw [W32_num] at hlt
    rw [hx2]
    have k1 : ¬ (k : Int) ≤ 0 := by omega
    have k2 : (0 : Int) < (k : Int) := by omega
    have k3 := bits_and_one32 x hlt
    clear hz he hr hcl hk hs h0 hx hx2
    go_enter Tryz.func191, Tryz.ntmps191
    go_wp2_with fail
    go_ret
    exact ⟨rfl, rfl⟩

set_option maxRecDepth 100000 in
theorem rnumber_walk (i : Int) (h1 : -10000 ≤ i) (h2 : i ≤ 10000) (w : World) :
    Calls Tryz.prog 181 #[.int .i64 i] w fun e w' => e = .returned (.string (bs (Lib.itoa i))) ∧ Below w.heap.size w w' := by
  by_cases hn : i < 0
  · obtain ⟨n, rfl⟩ : ∃ n : Nat, i = -(n : Int) := ⟨(-i).toNat, by omega⟩
    have hbl : blen n ≤ 3 * 5 := blen_le.2 (by omega)
    have HS := Lib.hid (rsmall_walk n (by omega) w)
    have HT := Lib.hid (fun W v (h : DgAt W v n) => rtold_walk v n 5 W h hbl (by omega) (by omega))
    have p1 : IntKind.i64.wrap (-(-(n : Int))) = (n : Int) := by rw [IntKind.wrap_i64]; omega
    have p1' : IntKind.i64.wrap (n : Int) = (n : Int) := by rw [IntKind.wrap_i64]; omega
    have hit : bs (Lib.itoa (-(n : Int))) = (⟨#[45]⟩ : ByteArray) ++ bs (Lib.decDigits n) := by
      rw [Lib.itoa_neg n (by omega)]
      exact (bs_append [45] _).symm
    have hls : (bs (Lib.decDigits n)).size ≤ 100 := by
      rw [bs_size]; have := digs_bound (n := 5) hbl (by omega); omega
    rw [hit]
    obtain ⟨D, hD⟩ : ∃ D, bs (Lib.decDigits n) = D := ⟨_, rfl⟩
    simp only [hD] at HT hls ⊢
    clear h1 h2 hbl hD hit
    go_enter Tryz.func181, Tryz.ntmps181
    go_wp2_with fail
    refine HS.out.mono ?_
    rintro r w1 ⟨v1, rfl, hd1, hb1⟩
    have HD1 := Lib.hid hd1
    have HB1 := Lib.hid hb1
    clear hd1 hb1
    go_wp2_with fail
    refine (HT.out _ _ HD1.out).mono ?_
    rintro r w2 ⟨rfl, hb2⟩
    have HB2 := Lib.hid (below_chain HB1.out hb2)
    clear hb2
    go_wp2
    go_ret
    exact ⟨rfl, HB2.out⟩
  · obtain ⟨n, rfl⟩ : ∃ n : Nat, i = (n : Int) := ⟨i.toNat, by omega⟩
    have hbl : blen n ≤ 3 * 5 := blen_le.2 (by omega)
    have HS := Lib.hid (rsmall_walk n (by omega) w)
    have HT := Lib.hid (fun W v (h : DgAt W v n) => rtold_walk v n 5 W h hbl (by omega) (by omega))
    have hit : Lib.itoa (n : Int) = Lib.decDigits n := by
      rw [Lib.itoa_nonneg n]
    rw [hit]
    obtain ⟨D, hD⟩ : ∃ D, bs (Lib.decDigits n) = D := ⟨_, rfl⟩
    simp only [hD] at HT ⊢
    clear h1 h2 hbl hD hit
    go_enter Tryz.func181, Tryz.ntmps181
    go_wp2_with fail
    refine HS.out.mono ?_
    rintro r w1 ⟨v1, rfl, hd1, hb1⟩
    have HD1 := Lib.hid hd1
    have HB1 := Lib.hid hb1
    clear hd1 hb1
    go_wp2_with fail
    refine (HT.out _ _ HD1.out).mono ?_
    rintro r w2 ⟨rfl, hb2⟩
    have HB2 := Lib.hid (below_chain HB1.out hb2)
    clear hb2
    go_wp2
    go_ret
    exact ⟨rfl, HB2.out⟩

set_option maxRecDepth 100000 in
/-- parts, at any format's numbers: a size's number as a fraction. -/
theorem rparts_gen (sg P L G I Q : Int) (z m : Nat) (x : Int) (hm : m < 18446744073709551616) (hx1 : -1200 ≤ x) (hx2 : x ≤ 1200)
    (hPa : ∀ W, Calls Tryz.prog 182 #[.agg #[.int .u64 sg, .int .i64 P, .int .i64 L, .int .i64 G, .int .u64 I, .int .u64 Q], .int .u64 (z : Int)] W fun e w' => e = .returned (.tuple #[.int .u64 (m : Int), .int .i64 x]) ∧ Below W.heap.size W w') (w : World) :
    Calls Tryz.prog 154 #[.agg #[.int .u64 sg, .int .i64 P, .int .i64 L, .int .i64 G, .int .u64 I, .int .u64 Q], .int .u64 (z : Int)] w fun e w' => ∃ nv dv, e = .returned (.tuple #[nv, dv]) ∧ DgAt w' nv (m * 2 ^ x.toNat) ∧ DgAt w' dv (2 ^ (-x).toNat) ∧ Below w.heap.size w w' := by
  have hw0 := below_alloc' w (.cells #[.int .u64 sg, .int .i64 P, .int .i64 L, .int .i64 G, .int .u64 I, .int .u64 Q] 122)
  have HW0 := Lib.hid hw0
  have HP := Lib.hid hPa
  have HWm := Lib.hid (fun W => rword_walk m hm W)
  have HW1 := Lib.hid (fun W => show Calls Tryz.prog 179 #[.int .u64 1] W fun e w' => ∃ v', e = .returned v' ∧ DgAt w' v' 1 ∧ Below W.heap.size W w' from rword_walk 1 (by decide) W)
  have hml : (toD m).length ≤ 2 := (toD_length_le m 2).2 (by rw [W32_num]; omega)
  by_cases hx : x < 0
  · have e1 : x.toNat = 0 := by omega
    rw [e1, Nat.pow_zero, Nat.mul_one]
    have HPw := Lib.hid (fun W => rpow2_walk (-x) (by omega) (by omega) W)
    have p1 : IntKind.i64.wrap (-x) = -x := by rw [IntKind.wrap_i64]; omega
    obtain ⟨D, hD⟩ : ∃ D, 2 ^ (-x).toNat = D := ⟨_, rfl⟩
    simp only [hD] at HPw ⊢
    clear hw0 hPa hm hx1 hx2 hml e1 hD
    go_enter Tryz.func154, Tryz.ntmps154
    go_wp2_with fail
    refine (HP.out _).mono ?_
    rintro r w1 ⟨rfl, hb1⟩
    have HB1 := Lib.hid (below_chain HW0.out hb1)
    clear hb1
    go_wp2_with fail
    refine (HWm.out _).mono ?_
    rintro r w2 ⟨v2, rfl, hd2, hb2⟩
    have HB2 := Lib.hid (below_chain HB1.out hb2)
    have HD2 := Lib.hid hd2
    clear hb2 hd2
    go_wp2_with fail
    refine (HPw.out _).mono ?_
    rintro r w3 ⟨v3, rfl, hd3, hb3⟩
    have HB3 := Lib.hid (below_chain HB2.out hb3)
    have HD3 := Lib.hid hd3
    have HD2' := Lib.hid (HD2.out.below hb3)
    clear hb3 hd3
    obtain ⟨A2, c2, rfl, _, _, _⟩ := id HD2'.out
    obtain ⟨A3, c3, rfl, _, _, _⟩ := id HD3.out
    go_wp2
    go_ret2
    exact ⟨_, _, rfl, HD2'.out, HD3.out, HB3.out⟩
  · have e1 : (-x).toNat = 0 := by omega
    rw [e1, Nat.pow_zero]
    have HSh := Lib.hid (fun W v (h : DgAt W v m) => rshl_walk v m x W h (by omega) (by omega) (by omega))
    obtain ⟨N, hN⟩ : ∃ N, m * 2 ^ x.toNat = N := ⟨_, rfl⟩
    simp only [hN] at HSh ⊢
    clear hw0 hPa hm hx1 hx2 hml e1 hN
    go_enter Tryz.func154, Tryz.ntmps154
    go_wp2_with fail
    refine (HP.out _).mono ?_
    rintro r w1 ⟨rfl, hb1⟩
    have HB1 := Lib.hid (below_chain HW0.out hb1)
    clear hb1
    go_wp2_with fail
    refine (HWm.out _).mono ?_
    rintro r w2 ⟨v2, rfl, hd2, hb2⟩
    have HB2 := Lib.hid (below_chain HB1.out hb2)
    have HD2 := Lib.hid hd2
    clear hb2 hd2
    go_wp2_with fail
    refine (HSh.out _ _ HD2.out).mono ?_
    rintro r w3 ⟨v3, rfl, hd3, hb3⟩
    have HB3 := Lib.hid (below_chain HB2.out hb3)
    have HD3 := Lib.hid hd3
    clear hb3 hd3 HD2
    go_wp2_with fail
    refine (HW1.out _).mono ?_
    rintro r w4 ⟨v4, rfl, hd4, hb4⟩
    have HB4 := Lib.hid (below_chain HB3.out hb4)
    have HD4 := Lib.hid hd4
    have HD3' := Lib.hid (HD3.out.below hb4)
    clear hb4 hd4
    obtain ⟨A3, c3, rfl, _, _, _⟩ := id HD3'.out
    obtain ⟨A4, c4, rfl, _, _, _⟩ := id HD4.out
    go_wp2
    go_ret2
    exact ⟨_, _, rfl, HD3'.out, HD4.out, HB4.out⟩

theorem cmpD_nonpos {a b : Nat} : cmpD a b ≤ 0 ↔ a ≤ b := by unfold cmpD; split <;> (try split) <;> omega
set_option maxRecDepth 100000 in
theorem rreach_walk (nv dv : Value) (N D : Nat) (q : Int) (w : World) (hn : DgAt w nv N) (hd : DgAt w dv D) (b1 : blen N ≤ 10000) (b2 : blen D ≤ 10000) (q1 : -2000 ≤ q) (q2 : q ≤ 2000) :
    Calls Tryz.prog 186 #[nv, dv, .int .i64 q] w fun e w' => e = .returned (.bool (decide (D * 10 ^ q.toNat ≤ N * 10 ^ (-q).toNat))) ∧ Below w.heap.size w w' := by
  have hl1 : (toD N).length ≤ 40000 := by rw [toD_length]; omega
  have hl2 : (toD D).length ≤ 40000 := by rw [toD_length]; omega
  have HN := Lib.hid hn
  have HD := Lib.hid hd
  by_cases hq : q < 0
  · have e1 : q.toNat = 0 := by omega
    rw [e1, Nat.pow_zero, Nat.mul_one]
    have HT := Lib.hid (rten_walk (-q).toNat (by omega) w)
    have p1 : IntKind.i64.wrap (-q) = (((-q).toNat : Nat) : Int) := by rw [IntKind.wrap_i64]; omega
    obtain ⟨k, hk⟩ : ∃ k, (-q).toNat = k := ⟨_, rfl⟩
    have hkb : k ≤ 2000 := by omega
    rw [hk] at p1 HT ⊢
    have hl3 : (toD (10 ^ k)).length ≤ 40000 := by rw [toD_length]; have := blen_pow_ten k; omega
    have HM := Lib.hid (fun W v (g : DgAt W nv N) (h : DgAt W v (10 ^ k)) => rprod_walk nv v N (10 ^ k) W g h hl1 hl3)
    have HC := Lib.hid (fun W v (g : DgAt W dv D) (h : DgAt W v (N * 10 ^ k)) => rncmp_walk dv v D (N * 10 ^ k) W g h (by omega))
    obtain ⟨M, hM⟩ : ∃ M, N * 10 ^ k = M := ⟨_, rfl⟩
    simp only [hM] at HM HC ⊢
    obtain ⟨r, hr⟩ : ∃ r, cmpD D M = r := ⟨_, rfl⟩
    have hdec : decide (D ≤ M) = decide (r ≤ 0) := by rw [← hr]; exact decide_eq_decide.2 cmpD_nonpos.symm
    rw [hdec]
    simp only [hr] at HC
    clear hn hd b1 b2 q1 q2 hl1 hl2 e1 hk hkb hl3 hM hr hdec
    go_enter Tryz.func186, Tryz.ntmps186
    go_wp2_with fail
    refine HT.out.mono ?_
    rintro e w1 ⟨x, rfl, hx, hb1⟩
    have HX := Lib.hid hx
    have HB1 := Lib.hid hb1
    clear hx hb1
    go_wp2_with fail
    refine (HM.out _ _ (HN.out.below HB1.out) HX.out).mono ?_
    rintro e w2 ⟨y, rfl, hy, hb2⟩
    have HY := Lib.hid hy
    have HB2 := Lib.hid (below_chain HB1.out hb2)
    clear hy hb2 HX
    go_wp2_with fail
    refine (HC.out _ _ (HD.out.below HB2.out) HY.out).mono ?_
    rintro e w3 ⟨rfl, hb3⟩
    have HB3 := Lib.hid (below_chain HB2.out hb3)
    clear hb3 HY
    go_wp2_with fail
    go_ret
    exact ⟨rfl, HB3.out⟩
  · have e1 : (-q).toNat = 0 := by omega
    rw [e1, Nat.pow_zero, Nat.mul_one]
    have HT := Lib.hid (rten_walk q.toNat (by omega) w)
    obtain ⟨k, rfl⟩ : ∃ k : Nat, q = (k : Int) := ⟨q.toNat, by omega⟩
    rw [Int.toNat_natCast] at HT ⊢
    have hl3 : (toD (10 ^ k)).length ≤ 40000 := by rw [toD_length]; have := blen_pow_ten k; omega
    have hpr := blen_mul D (10 ^ k)
    have hpt := blen_pow_ten k
    have HM := Lib.hid (fun W v (g : DgAt W dv D) (h : DgAt W v (10 ^ k)) => rprod_walk dv v D (10 ^ k) W g h hl2 hl3)
    have HC := Lib.hid (fun W v (h : DgAt W v (D * 10 ^ k)) (g : DgAt W nv N) => rncmp_walk v nv (D * 10 ^ k) N W h g (by rw [toD_length]; omega))
    obtain ⟨M, hM⟩ : ∃ M, D * 10 ^ k = M := ⟨_, rfl⟩
    simp only [hM] at HM HC ⊢
    obtain ⟨r, hr⟩ : ∃ r, cmpD M N = r := ⟨_, rfl⟩
    have hdec : decide (M ≤ N) = decide (r ≤ 0) := by rw [← hr]; exact decide_eq_decide.2 cmpD_nonpos.symm
    rw [hdec]
    simp only [hr] at HC
    clear hn hd b1 b2 q1 q2 hl1 hl2 e1 hl3 hM hr hdec hpr hpt
    go_enter Tryz.func186, Tryz.ntmps186
    go_wp2_with fail
    refine HT.out.mono ?_
    rintro e w1 ⟨x, rfl, hx, hb1⟩
    have HX := Lib.hid hx
    have HB1 := Lib.hid hb1
    clear hx hb1
    go_wp2_with fail
    refine (HM.out _ _ (HD.out.below HB1.out) HX.out).mono ?_
    rintro e w2 ⟨y, rfl, hy, hb2⟩
    have HY := Lib.hid hy
    have HB2 := Lib.hid (below_chain HB1.out hb2)
    clear hy hb2 HX
    go_wp2_with fail
    refine (HC.out _ _ HY.out (HN.out.below HB2.out)).mono ?_
    rintro e w3 ⟨rfl, hb3⟩
    have HB3 := Lib.hid (below_chain HB2.out hb3)
    clear hb3 HY
    go_wp2_with fail
    go_ret
    exact ⟨rfl, HB3.out⟩
end Go.Proofs.YtmfjimmodaofdaaGreatDoor
