/- Walks of gnomonref11: noughts, Scientific, laid. -/
import Derived.Test.YtmfjimmodaofdaaGreatDoorA6
import Derived.Deep.RegionHeld3
namespace Go.Proofs.YtmfjimmodaofdaaGreatDoor
open Go.RowKit

theorem rep_snoc (m : Nat) : bs (List.replicate m 48) ++ (⟨#[48]⟩ : ByteArray) = bs (List.replicate (m + 1) 48) := by
  rw [List.replicate_succ']; exact bs_append _ [48]

set_option maxRecDepth 100000 in
theorem rnoughts_walk (k : Int) (h1 : k ≤ 2000) (w : World) :
    Calls Tryz.prog 153 #[.int .i64 k] w fun e w' => e = .returned (.string (bs (List.replicate k.toNat 48))) ∧ Below w.heap.size w w' := by
  by_cases h0 : k < 0
  · have e : k.toNat = 0 := by omega
    have g : ¬ (0 : Int) < k := by omega
    rw [e]
    clear h1 h0 e
    go_enter Tryz.func153, Tryz.ntmps153
    go_wp2
    go_loop [0, 3] (fun kv sv => kv = .int .i64 k ∧ sv = .string ⟨#[]⟩) (fun _ _ => 0)
    case atStart => exact ⟨rfl, rfl⟩
    case round =>
      obtain ⟨rfl, rfl⟩ := hrel
      go_wp2
      go_ret
      exact ⟨rfl, Below.refl _ _⟩
  · obtain ⟨n, rfl⟩ : ∃ n : Nat, k = (n : Int) := ⟨k.toNat, by omega⟩
    rw [Int.toNat_natCast]
    have HN := Lib.hid (show n ≤ 2000 by omega)
    clear h1 h0
    go_enter Tryz.func153, Tryz.ntmps153
    go_wp2
    go_loop [0, 3] (fun kv sv => ∃ i j : Nat, Hid (i + j = n) ∧ kv = .int .i64 (i : Int) ∧ sv = .string (bs (List.replicate j 48))) (fun kv _ => (intOf kv).toNat)
    case atStart => exact ⟨n, 0, Lib.hid (by omega), rfl, rfl⟩
    case round =>
      obtain ⟨i, j, HIJ, rfl, rfl⟩ := hrel
      by_cases hi : i = 0
      · subst hi
        have HE := Lib.hid (show j = n by have := HIJ.out; omega)
        have g : ¬ (0 : Int) < ((0 : Nat) : Int) := by omega
        go_wp2
        go_ret
        exact ⟨by rw [HE.out]; rfl, Below.refl _ _⟩
      · obtain ⟨i, rfl⟩ : ∃ m, i = m + 1 := ⟨i - 1, by omega⟩
        have g : (0 : Int) < ((i + 1 : Nat) : Int) := by omega
        have p : (i : Int) ≤ 2000 := by have := HIJ.out; have := HN.out; omega
        have HR := Lib.hid (rep_snoc j)
        have hl1 : (bs (List.replicate j 48)).size ≤ 2000 := by rw [bs_size, List.length_replicate]; have := HIJ.out; have := HN.out; omega
        have hl2 : (⟨#[48]⟩ : ByteArray).size = 1 := rfl
        obtain ⟨S, hS⟩ : ∃ S, bs (List.replicate j 48) = S := ⟨_, rfl⟩
        rw [hS] at HR hl1 ⊢
        have HI2 := Lib.hid (show i + (j + 1) = n by have := HIJ.out; omega)
        clear hi hS
        go_wp2
        go_round
        case rel => exact ⟨i, j + 1, HI2, rfl, by rw [← HR.out]⟩
        case measure => simp [intOf]

set_option maxRecDepth 100000 in
set_option maxHeartbeats 1000000 in
theorem rsci_walk (D : List UInt8) (x : Int) (h1 : 1 ≤ D.length) (h2 : D.length ≤ 2000) (x1 : -10000 ≤ x) (x2 : x ≤ 10000) (w : World) :
    Calls Tryz.prog 152 #[.string (bs D), .int .i64 x] w fun e w' => e = .returned (.string (bs (ptd D ++ [101] ++ Lib.itoa x))) ∧ Below w.heap.size w w' := by
  have hsz := bs_size D
  have HNu := Lib.hid (fun W => rnumber_walk x x1 x2 W)
  have hit : (bs (Lib.itoa x)).size ≤ 20 := by rw [bs_size]; exact itoa_len x (by omega) (by omega)
  obtain ⟨I, hI⟩ : ∃ I, bs (Lib.itoa x) = I := ⟨_, rfl⟩
  by_cases hc : D.length = 1
  · have hb : ((D.length : Int) == 1) = true := by rw [beq_iff_eq]; omega
    have HP := Lib.hid (show bs D ++ (⟨#[101]⟩ : ByteArray) ++ I = bs (ptd D ++ [101] ++ Lib.itoa x) by rw [← hI]; unfold ptd; rw [if_pos hc]; exact ((bs_append (D ++ [101]) _).symm.trans (by rw [← bs_append D [101]]; rfl)).symm)
    have hl0 : (⟨#[101]⟩ : ByteArray).size = 1 := rfl
    have hl1 : (bs D).size ≤ 2000 := by omega
    have hl3 : (bs D ++ (⟨#[101]⟩ : ByteArray)).size ≤ 2001 := by rw [ByteArray.size_append]; omega
    simp only [hI] at HNu hit
    obtain ⟨S, hS⟩ : ∃ S, bs D = S := ⟨_, rfl⟩
    rw [hS] at HP hsz hl1 hl3 ⊢
    have hb2 : ((S.size : Int) == 1) = true := by rw [hsz]; exact hb
    rw [← HP.out]
    clear hc hsz hS hb h1 h2 x1 x2 hI
    go_enter Tryz.func152, Tryz.ntmps152
    go_wp2_with fail
    refine (HNu.out _).mono ?_
    rintro r w1 ⟨rfl, hb1⟩
    go_wp2
    go_ret
    exact ⟨rfl, hb1⟩
  · have HP := Lib.hid (show (bs D).extract 0 1 ++ (⟨#[46]⟩ : ByteArray) ++ (bs D).extract 1 (bs D).size ++ (⟨#[101]⟩ : ByteArray) ++ I = bs (ptd D ++ [101] ++ Lib.itoa x) by
      rw [← hI, show (⟨#[46]⟩ : ByteArray) = bs [46] from rfl, show (⟨#[101]⟩ : ByteArray) = bs [101] from rfl]
      unfold ptd; rw [if_neg hc, bs_size, bs_take, bs_drop, bs_append, bs_append, bs_append, bs_append])
    have hl1 : ((bs D).extract 0 1).size ≤ 2000 := by rw [bs_take, bs_size, List.length_take]; omega
    have hl2 : ((bs D).extract 1 (bs D).size).size ≤ 2000 := by rw [bs_size, bs_drop, bs_size, List.length_drop]; omega
    simp only [hI] at HNu hit
    have hn : (bs D).size = D.length := hsz
    obtain ⟨S, hS⟩ : ∃ S, bs D = S := ⟨_, rfl⟩
    rw [hS] at HP hl1 hl2 hn ⊢
    have r1 : (1 : Int) ≤ (S.size : Int) := by omega
    have hb : ((S.size : Int) == 1) = false := by rw [beq_eq_false_iff_ne]; omega
    rw [← HP.out]
    have HBd := Lib.hid (below_draw' w)
    obtain ⟨DA, hda⟩ : ∃ DA, S.extract 0 1 = DA := ⟨_, rfl⟩
    obtain ⟨DZ, hdz⟩ : ∃ DZ, S.extract 1 S.size = DZ := ⟨_, rfl⟩
    rw [hda] at hl1 ⊢
    rw [hdz] at hl2 ⊢
    have k3 : (⟨#[46]⟩ : ByteArray).size = 1 := rfl
    have k4 : (⟨#[101]⟩ : ByteArray).size = 1 := rfl
    have s14 : ¬ 9223372036854775807 < DA.size + 1 := by omega
    have s15 : ¬ 9223372036854775807 < DA.size + 1 + DZ.size := by omega
    have s16 : ¬ 9223372036854775807 < DA.size + 1 + DZ.size + 1 := by omega
    have s17 : ¬ 9223372036854775807 < DA.size + 1 + DZ.size + 1 + I.size := by omega
    clear hc hsz hS hn h1 h2 x1 x2 hI hl1 hl2 hit HP
    go_enter Tryz.func152, Tryz.ntmps152
    go_wp2_with fail
    go_region_held3 (fun w' => Hid (Below w.heap.size w w'))
      (first | exact HBd | exact Lib.hid (below_chain (Hid.out (by assumption)) hb3) | exact (by assumption))
      ((go_at_call 181; refine (HNu.out _).mono ?_; rintro e w3 ⟨rfl, hb3⟩))
    all_goals
      have HBe : Hid (Below w.heap.size w w3) := by assumption
      go_wp2
      go_ret
      exact ⟨rfl, HBe.out⟩

theorem tak_next {T : List UInt8} {i : Nat} (h : i < T.length) : T.take (i + 1) = T.take i ++ [by8 (bs T) i] := by
  rw [List.take_succ_eq_append_getElem h]
  congr 2
  show T[i] = T.getD i 0
  rw [List.getD_eq_getElem?_getD, List.getElem?_eq_getElem h, Option.getD_some]
theorem tlz_cut {d : List UInt8} (h : d ≠ []) (hl : by8 (bs d) (d.length - 1) = 48) : tl0 (d.take (d.length - 1)) = tl0 d := by
  have hlt : d.length - 1 < d.length := by have : d.length ≠ 0 := fun e => h (List.length_eq_zero_iff.1 e); omega
  have e : d = d.take (d.length - 1) ++ [48] := by
    have := tak_next hlt
    rw [hl, show d.length - 1 + 1 = d.length by omega, List.take_length] at this
    exact this
  conv => rhs; rw [e]
  unfold tl0 Lib.trimRightB
  rw [List.reverse_append]
  show _ = (List.dropWhile (· == 48) (48 :: (d.take (d.length - 1)).reverse)).reverse
  rw [List.dropWhile_cons_of_pos (by decide)]
theorem tlz_done {d : List UInt8} (h : d = [] ∨ by8 (bs d) (d.length - 1) ≠ 48) : tl0 d = d := by
  by_cases h0 : d = []
  · rw [h0]; rfl
  have hn := h.resolve_left h0
  have hlt : d.length - 1 < d.length := by have : d.length ≠ 0 := fun e => h0 (List.length_eq_zero_iff.1 e); omega
  have e : d = d.take (d.length - 1) ++ [by8 (bs d) (d.length - 1)] := by
    have := tak_next hlt
    rw [show d.length - 1 + 1 = d.length by omega, List.take_length] at this
    exact this
  obtain ⟨c, hc⟩ : ∃ c, by8 (bs d) (d.length - 1) = c := ⟨_, rfl⟩
  obtain ⟨l, hl⟩ : ∃ l, d.take (d.length - 1) = l := ⟨_, rfl⟩
  rw [hc, hl] at e
  rw [hc] at hn
  unfold tl0 Lib.trimRightB
  rw [e, List.reverse_append, List.reverse_singleton, List.singleton_append, List.dropWhile_cons_of_neg (by simpa using hn), List.reverse_cons, List.reverse_reverse]


theorem by8_bs (D : List UInt8) (i : Nat) : by8 (bs D) i = D.getD i 0 := rfl
theorem by8_take (D : List UInt8) {i n : Nat} (h : i < n) : by8 (bs (D.take n)) i = by8 (bs D) i := by
  rw [by8_bs, by8_bs, List.getD_eq_getElem?_getD, List.getD_eq_getElem?_getD, List.getElem?_take, if_pos h]

set_option maxRecDepth 100000 in
set_option maxHeartbeats 4000000 in
theorem rlaid_walk (D : List UInt8) (q : Int) (hD : ∃ c t, D = c :: t ∧ c ≠ 48) (h2 : D.length ≤ 1000) (q1 : -2000 ≤ q) (q2 : q ≤ 2000) (w : World) :
    Calls Tryz.prog 150 #[.string (bs D), .int .i64 q] w fun e w' => e = .returned (.string (bs (layS (tl0 D) (q + (D.length : Int) - ((tl0 D).length : Int))))) ∧ Below w.heap.size w w' := by
  have h1 : 1 ≤ D.length := by obtain ⟨c, t, e, _⟩ := hD; rw [e]; simp
  have hf : by8 (bs D) 0 ≠ 48 := by obtain ⟨c, t, e, hc⟩ := hD; rw [e]; exact hc
  obtain ⟨L, hL⟩ : ∃ L, D.length = L := ⟨_, rfl⟩
  rw [hL] at h1 h2 ⊢
  have HM := Lib.hid (show 1 ≤ L ∧ L ≤ 1000 ∧ D.length = L ∧ by8 (bs D) 0 ≠ 48 from ⟨h1, h2, hL, hf⟩)
  have HS0 : Hid (bs D = bs (D.take L)) := Lib.hid (by rw [← hL, List.take_length])
  obtain ⟨A, hA⟩ : ∃ A, bs D = A := ⟨_, rfl⟩
  rw [hA] at HS0 ⊢
  clear hD h1 h2 hf hL hA
  go_enter Tryz.func150, Tryz.ntmps150
  go_wp2_with fail
  go_loop [0, 1] (fun sv qv => ∃ n : Nat, sv = .string (bs (D.take n)) ∧ qv = .int .i64 (q + (L : Int) - (n : Int)) ∧ 1 ≤ n ∧ n ≤ L ∧ Hid (tl0 (D.take n) = tl0 D)) (fun sv _ => strN sv)
  case atStart => exact ⟨L, by rw [HS0.out], by congr 1; omega, HM.out.1, Nat.le_refl _, Lib.hid (by rw [← HM.out.2.2.1, List.take_length])⟩
  case round =>
    obtain ⟨n, rfl, rfl, hn1, hn2, HT⟩ := hrel
    have hM := HM.out
    have hlen : (D.take n).length = n := by rw [List.length_take]; omega
    have hsz : (bs (D.take n)).size = n := by rw [bs_size]; exact hlen
    obtain ⟨b, hb⟩ : ∃ b, by8 (bs (D.take n)) (n - 1) = b := ⟨_, rfl⟩
    have hix : ∀ w1, (Instr.index 9 (.string (bs (D.take n))) (.int .i64 ((n - 1 : Nat) : Int))).run Tryz.prog w1 = .ok (.int .u8 ((b.toNat : Nat) : Int)) w1 := fun w1 => by rw [← hb]; exact run_byte _ (n - 1) (by omega) (by omega) w1
    by_cases hgo : 2 ≤ n ∧ b = 48
    · obtain ⟨g2, g48⟩ := hgo
      subst g48
      have hcut := tlz_cut (d := D.take n) (fun e => by rw [e] at hlen; simp at hlen; omega) (by rw [hlen]; exact hb)
      rw [hlen, List.take_take, Nat.min_eq_left (by omega)] at hcut
      have HT2 := Lib.hid (hcut.trans HT.out)
      have hext : (bs (D.take n)).extract 0 (n - 1) = bs (D.take (n - 1)) := by rw [bs_take, List.take_take, Nat.min_eq_left (by omega)]
      have HX := Lib.hid hext
      obtain ⟨m, hm⟩ : ∃ m, n - 1 = m := ⟨_, rfl⟩
      rw [hm] at hix HX HT2
      obtain ⟨S, hS⟩ : ∃ S, bs (D.take n) = S := ⟨_, rfl⟩
      rw [hS] at hsz hix HX ⊢
      have HSz := Lib.hid hsz
      have HSm := Lib.hid (show (bs (D.take m)).size = m by rw [bs_size, List.length_take]; omega)
      have e0 : (UInt8.toNat 48 : Int) = 48 := rfl
      have r1 : (1 : Int) < (n : Int) := by omega
      have r2 : IntKind.i64.wrap ((n : Int) - 1) = (m : Int) := by rw [IntKind.wrap_i64]; omega
      have r3 : IntKind.i64.wrap (q + (L : Int) - (n : Int) + 1) = q + (L : Int) - (m : Int) := by rw [IntKind.wrap_i64]; omega
      have r4 : (m : Int) ≤ (n : Int) := by omega
      have HB := Lib.hid (show n ≤ L ∧ n - 1 = m ∧ 2 ≤ n from ⟨hn2, hm, g2⟩)
      clear hcut hext hb hlen hM hn1 hn2 g2 hS HT hm
      go_wp2_with fail
      go_round
      case rel => exact ⟨m, by rw [HX.out], rfl, by have := HB.out; omega, by have := HB.out; omega, HT2⟩
      case measure =>
        show (S.extract 0 m).size < S.size
        rw [HX.out, HSm.out, HSz.out]
        have := HB.out; omega
    · have hb8 := by8_take D (i := n - 1) (n := n) (by omega)
      have hstop : (n = 1) ∨ (2 ≤ n ∧ b ≠ 48) := by
        by_cases h : n = 1
        · exact .inl h
        · exact .inr ⟨by omega, fun e => hgo ⟨by omega, e⟩⟩
      have hT : tl0 (D.take n) = D.take n := by
        refine tlz_done (.inr ?_)
        rw [hlen]
        rcases hstop with h | h
        · subst h
          rw [by8_take D (by omega)]
          exact hM.2.2.2
        · rw [hb]; exact h.2
      have HTe := Lib.hid (show tl0 D = D.take n by rw [← HT.out, hT])
      obtain ⟨T, hTT⟩ : ∃ T, D.take n = T := ⟨_, rfl⟩
      rw [hTT] at hix hlen hsz HTe
      rw [hTT]
      have HPo := Lib.hid (show layS (tl0 D) (q + (L : Int) - ((tl0 D).length : Int)) = layS T (q + (L : Int) - (n : Int)) by rw [HTe.out, hlen])
      obtain ⟨z, hz⟩ : ∃ z : Int, q + (L : Int) - (n : Int) = z := ⟨_, rfl⟩
      rw [hz] at HPo ⊢
      have hlay : layS T z = if (n : Int) ≤ (n : Int) + z ∧ (n : Int) + z ≤ 17 then T ++ List.replicate z.toNat 48 else if 1 ≤ (n : Int) + z ∧ (n : Int) + z ≤ 17 then T.take ((n : Int) + z).toNat ++ [46] ++ T.drop ((n : Int) + z).toNat else if -3 ≤ (n : Int) + z ∧ (n : Int) + z ≤ 0 then [48, 46] ++ List.replicate (-((n : Int) + z)).toNat 48 ++ T else ptd T ++ [101] ++ Lib.itoa ((n : Int) + z - 1) := by
        unfold layS; rw [hlen]
      obtain ⟨k, hk⟩ : ∃ k : Int, (n : Int) + z = k := ⟨_, rfl⟩
      rw [hk] at hlay
      have hnb : n ≤ 1000 := by omega
      have hzb : -4000 ≤ z ∧ z ≤ 4000 := by omega
      have p0 : IntKind.i64.wrap ((n : Int) + z) = k := by rw [IntKind.wrap_i64]; omega
      have HSc := Lib.hid (fun x (x1 : -10000 ≤ x) (x2 : x ≤ 10000) W => rsci_walk T x (by omega) (by omega) x1 x2 W)
      have hTL : T.length = n := hlen
      obtain ⟨S, hS⟩ : ∃ S, bs T = S := ⟨_, rfl⟩
      rw [hS] at hsz hix HSc ⊢
      have HSS := Lib.hid hS
      clear hgo hb8 hT hb hM hn1 hn2 HT hTT hlen hz
      obtain ⟨m, hm⟩ : ∃ m, n - 1 = m := ⟨_, rfl⟩
      rw [hm] at hix
      -- the two ways out of the loop
      have hw : (¬ (1 : Int) < (n : Int)) ∨ ((1 : Int) < (n : Int) ∧ IntKind.i64.wrap ((n : Int) - 1) = (m : Int) ∧ (m : Int) < (n : Int) ∧ ((((b.toNat : Nat) : Int) == 48) = false)) := by
        rcases hstop with h | h
        · exact .inl (by omega)
        · refine .inr ⟨by omega, by rw [IntKind.wrap_i64]; omega, by omega, ?_⟩
          rw [beq_eq_false_iff_ne]
          intro e
          exact h.2 (UInt8.toNat_inj.1 (by have : (48 : UInt8).toNat = 48 := rfl; omega))
      clear hstop hm
      by_cases cA : (n : Int) ≤ k ∧ k ≤ 17
      · rw [if_pos cA] at hlay
        obtain ⟨c, rfl⟩ : ∃ c : Nat, z = (c : Int) := ⟨z.toNat, by omega⟩
        rw [Int.toNat_natCast] at hlay
        have HNo := Lib.hid (rnoughts_walk (c : Int) (by omega) w)
        rw [Int.toNat_natCast] at HNo
        have HPl := Lib.hid (show S ++ bs (List.replicate c 48) = bs (layS (tl0 D) (q + (L : Int) - ((tl0 D).length : Int))) by rw [HPo.out, hlay, ← hS, bs_append])
        have hl4 : (bs (List.replicate c (48 : UInt8))).size ≤ 4000 := by rw [bs_size, List.length_replicate]; omega
        obtain ⟨Z, hZ⟩ : ∃ Z, bs (List.replicate c (48 : UInt8)) = Z := ⟨_, rfl⟩
        rw [hZ] at HNo hl4 HPl
        obtain ⟨a1, a2⟩ := cA
        clear hlay hS hZ hk hTL
        rcases hw with w1 | ⟨w1, w2, w3, w4⟩
        all_goals
          go_wp2_with fail
          refine HNo.out.mono ?_
          rintro r w5 ⟨rfl, hb5⟩
          go_wp2
          go_ret
          exact ⟨by rw [← HPl.out]; rfl, hb5⟩
      rw [if_neg cA] at hlay
      by_cases cB : 1 ≤ k ∧ k ≤ 17
      · rw [if_pos cB] at hlay
        obtain ⟨a1, a2⟩ := cB
        have a3 : ¬ (n : Int) ≤ k := fun h => cA ⟨h, a2⟩
        have a3' : decide ((n : Int) ≤ k) = false := decide_eq_false a3
        have a4 : k < (n : Int) := by omega
        obtain ⟨kk, rfl⟩ := Int.eq_ofNat_of_zero_le (show 0 ≤ k by omega)
        rw [Int.toNat_natCast] at hlay
        have HPl := Lib.hid (show S.extract 0 kk ++ bs [46] ++ S.extract kk S.size = bs (layS (tl0 D) (q + (L : Int) - ((tl0 D).length : Int))) by rw [HPo.out, hlay, ← hS, bs_size, bs_take, bs_drop, bs_append, bs_append])
        have hl1 : (S.extract 0 kk).size ≤ 4000 := by rw [← hS, bs_take, bs_size, List.length_take]; omega
        have hl2 : (S.extract kk S.size).size ≤ 4000 := by rw [← hS, bs_size, bs_drop, bs_size, List.length_drop]; omega
        have hns : n = S.size := hsz.symm
        subst hns
        obtain ⟨DA, hda⟩ : ∃ DA, S.extract 0 kk = DA := ⟨_, rfl⟩
        obtain ⟨DZ, hdz⟩ : ∃ DZ, S.extract kk S.size = DZ := ⟨_, rfl⟩
        rw [hda] at hl1 HPl
        rw [hdz] at hl2 HPl
        have k3 : (⟨#[46]⟩ : ByteArray).size = 1 := rfl
        have hl3 : (DA ++ (⟨#[46]⟩ : ByteArray)).size ≤ 4001 := by rw [ByteArray.size_append]; omega
        have s14 : ¬ 9223372036854775807 < DA.size + 1 := by omega
        have s15 : ¬ 9223372036854775807 < DA.size + 1 + DZ.size := by omega
        have r1 : (kk : Int) ≤ (S.size : Int) := by omega
        have r2 : (0 : Int) ≤ (kk : Int) := by omega
        clear hlay hS hk hTL cA hsz
        rcases hw with w1 | ⟨w1, w2, w3, w4⟩
        all_goals
          go_wp2_with fail
          go_quiet (fail)
          go_wp2
          go_ret
          exact ⟨by rw [← HPl.out]; rfl, below_dn (Below.refl _ _) _⟩
      rw [if_neg cB] at hlay
      by_cases cC : -3 ≤ k ∧ k ≤ 0
      · rw [if_pos cC] at hlay
        obtain ⟨a1, a2⟩ := cC
        have a3 : ¬ (n : Int) ≤ k := by omega
        have a3' : decide ((n : Int) ≤ k) = false := decide_eq_false a3
        have a4 : ¬ (1 : Int) ≤ k := by omega
        have a4' : decide ((1 : Int) ≤ k) = false := decide_eq_false a4
        obtain ⟨c, hc⟩ : ∃ c, (-k).toNat = c := ⟨_, rfl⟩
        have p3 : IntKind.i64.wrap (-k) = (c : Int) := by rw [IntKind.wrap_i64]; omega
        have HNo := Lib.hid (rnoughts_walk (c : Int) (by omega) w)
        rw [Int.toNat_natCast] at HNo
        have HPl := Lib.hid (show (⟨#[48, 46]⟩ : ByteArray) ++ bs (List.replicate c 48) ++ S = bs (layS (tl0 D) (q + (L : Int) - ((tl0 D).length : Int))) by rw [HPo.out, hlay, hc, ← hS, ← bs_append, ← bs_append]; rfl)
        have hl4 : (bs (List.replicate c (48 : UInt8))).size ≤ 4000 := by rw [bs_size, List.length_replicate]; omega
        obtain ⟨Z, hZ⟩ : ∃ Z, bs (List.replicate c (48 : UInt8)) = Z := ⟨_, rfl⟩
        rw [hZ] at HNo hl4 HPl
        have hl5 : ((⟨#[48, 46]⟩ : ByteArray) ++ Z).size ≤ 4010 := by rw [ByteArray.size_append]; have : (⟨#[48, 46]⟩ : ByteArray).size = 2 := rfl; omega
        clear hlay hS hZ hk hTL cA cB hc
        rcases hw with w1 | ⟨w1, w2, w3, w4⟩
        all_goals
          go_wp2_with fail
          refine HNo.out.mono ?_
          rintro r w5 ⟨rfl, hb5⟩
          go_wp2
          go_ret
          exact ⟨by rw [← HPl.out]; rfl, hb5⟩
      rw [if_neg cC] at hlay
      have HPl := Lib.hid (show bs (ptd T ++ [101] ++ Lib.itoa (k - 1)) = bs (layS (tl0 D) (q + (L : Int) - ((tl0 D).length : Int))) by rw [HPo.out, hlay])
      have HSk := Lib.hid (HSc.out (k - 1) (by omega) (by omega) w)
      have p4 : IntKind.i64.wrap (k - 1) = k - 1 := by rw [IntKind.wrap_i64]; omega
      rw [HPl.out] at HSk
      have hcase : (k ≤ -4) ∨ (18 ≤ k ∧ (n : Int) ≤ k) ∨ (18 ≤ k ∧ k < (n : Int)) := by omega
      clear hlay hS hk hTL cA cB cC HPl HPo HSc
      rcases hcase with c1 | ⟨c1, c2⟩ | ⟨c1, c2⟩
      · have a1 : ¬ (n : Int) ≤ k := by omega
        have a1' : decide ((n : Int) ≤ k) = false := decide_eq_false a1
        have a2 : ¬ (1 : Int) ≤ k := by omega
        have a2' : decide ((1 : Int) ≤ k) = false := decide_eq_false a2
        have a3 : ¬ (-3 : Int) ≤ k := by omega
        have a3' : decide ((-3 : Int) ≤ k) = false := decide_eq_false a3
        rcases hw with w1 | ⟨w1, w2, w3, w4⟩
        all_goals
          go_wp2_with fail
          refine HSk.out.mono ?_
          rintro r w5 ⟨rfl, hb5⟩
          go_wp2
          go_ret
          exact ⟨rfl, hb5⟩
      · have a0 : ¬ k ≤ 17 := by omega
        have a0' : decide (k ≤ 17) = false := decide_eq_false a0
        have a1 : (1 : Int) ≤ k := by omega
        have a2 : ¬ k < (n : Int) := by omega
        have a2' : decide (k < (n : Int)) = false := decide_eq_false a2
        have a3 : (-3 : Int) ≤ k := by omega
        have a4 : ¬ k ≤ 0 := by omega
        have a4' : decide (k ≤ 0) = false := decide_eq_false a4
        rcases hw with w1 | ⟨w1, w2, w3, w4⟩
        all_goals
          go_wp2_with fail
          refine HSk.out.mono ?_
          rintro r w5 ⟨rfl, hb5⟩
          go_wp2
          go_ret
          exact ⟨rfl, hb5⟩
      · have a0 : ¬ k ≤ 17 := by omega
        have a0' : decide (k ≤ 17) = false := decide_eq_false a0
        have a1 : (1 : Int) ≤ k := by omega
        have a2 : ¬ (n : Int) ≤ k := by omega
        have a2' : decide ((n : Int) ≤ k) = false := decide_eq_false a2
        have a3 : (-3 : Int) ≤ k := by omega
        have a4 : ¬ k ≤ 0 := by omega
        have a4' : decide (k ≤ 0) = false := decide_eq_false a4
        rcases hw with w1 | ⟨w1, w2, w3, w4⟩
        all_goals
          go_wp2_with fail
          refine HSk.out.mono ?_
          rintro r w5 ⟨rfl, hb5⟩
          go_wp2
          go_ret
          exact ⟨rfl, hb5⟩
end Go.Proofs.YtmfjimmodaofdaaGreatDoor
