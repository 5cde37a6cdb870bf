/- Walk of gnomonref11: DocDigits. -/
import Derived.Test.YtmfjimmodaofdaaGreatDoorA9
import Derived.Test.YtmfjimmodaofdaaGreatDoorEr
namespace Go.Proofs.YtmfjimmodaofdaaGreatDoor
open Go.RowKit

set_option maxRecDepth 100000 in
set_option maxHeartbeats 4000000 in
theorem rdocdigits_gen (f : Fm) (hf : f.ok) (FF sg P L G Q : Int) (iv : Nat) (hI : f.inf = iv) (b : Nat) (n : Int)
    (hCk : ∀ W, Calls Tryz.prog 78 #[.int .i64 FF, .int .u64 (b : Int)] W fun e w' => e = .returned (.int .i64 0) ∧ Below W.heap.size W w')
    (hOf : ∀ W, Calls Tryz.prog 79 #[.int .i64 FF] W fun e w' => e = .returned (.tuple #[.agg #[.int .u64 sg, .int .i64 P, .int .i64 L, .int .i64 G, .int .u64 (iv : Int), .int .u64 Q], .bool true]) ∧ Below W.heap.size W w')
    (hCut : ∀ W, Calls Tryz.prog 80 #[.agg #[.int .u64 sg, .int .i64 P, .int .i64 L, .int .i64 G, .int .u64 (iv : Int), .int .u64 Q], .int .u64 (b : Int)] W fun e w' => e = .returned (.tuple #[.bool (decide (2 ^ f.S ≤ b)), .int .u64 ((b % 2 ^ f.S : Nat) : Int)]) ∧ Below W.heap.size W w')
    (hPa : ∀ z W, z < f.inf → Calls Tryz.prog 182 #[.agg #[.int .u64 sg, .int .i64 P, .int .i64 L, .int .i64 G, .int .u64 (iv : Int), .int .u64 Q], .int .u64 (z : Int)] W fun e w' => e = .returned (.tuple #[.int .u64 ((mnt f z : Nat) : Int), .int .i64 (f.L + (mex f z : Int))]) ∧ Below W.heap.size W w')
    (w : World) :
    Calls Tryz.prog 115 #[.int .i64 FF, .int .u64 (b : Int), .int .i64 n] w fun e w' => ∃ (T : List UInt8) (k : Int), e = .returned (.tuple #[.string (bs T), .int .i64 k]) ∧ DgAns f b n T k ∧ Below w.heap.size w w' := by
  have HOf := Lib.hid hOf
  by_cases hbad : n < 1 ∨ 800 < n
  · have HP := Lib.hid (dgAns_bad (f := f) (b := b) hbad)
    clear hCk hOf hCut hPa hI hf
    by_cases h1 : n < 1
    · clear hbad
      go_enter Tryz.func115, Tryz.ntmps115
      go_wp2_with fail
      refine (HOf.out _).mono ?_
      rintro e w2 ⟨rfl, hb2⟩
      have HB := Lib.hid (BxS.new hb2 sg P L G (iv : Int) Q)
      clear hb2
      go_wp2
      go_ret2
      exact ⟨[], 1, rfl, HP.out, HB.out.bl⟩
    · have h2 : 800 < n := hbad.resolve_left h1
      have h3 : decide (n < 1) = false := decide_eq_false h1
      clear hbad
      go_enter Tryz.func115, Tryz.ntmps115
      go_wp2_with fail
      refine (HOf.out _).mono ?_
      rintro e w2 ⟨rfl, hb2⟩
      have HB := Lib.hid (BxS.new hb2 sg P L G (iv : Int) Q)
      clear hb2
      go_wp2
      go_ret2
      exact ⟨[], 1, rfl, HP.out, HB.out.bl⟩
  have hn1 : ¬ n < 1 := fun h => hbad (.inl h)
  have hn1' : decide (n < 1) = false := decide_eq_false hn1
  have hn2 : ¬ 800 < n := fun h => hbad (.inr h)
  have hn2' : decide (800 < n) = false := decide_eq_false hn2
  have HCk := Lib.hid hCk
  obtain ⟨sl, hsl⟩ : ∃ sl : List UInt8, (if 2 ^ f.S ≤ b then [45] else []) = sl := ⟨_, rfl⟩
  have hcut := hCut
  obtain ⟨ng, hng⟩ : ∃ ng, decide (2 ^ f.S ≤ b) = ng := ⟨_, rfl⟩
  have HSl : Hid ((ng = true → (⟨#[45]⟩ : ByteArray) = bs sl) ∧ (ng = false → (⟨#[]⟩ : ByteArray) = bs sl)) := Lib.hid ⟨fun e => by
      rw [e] at hng; rw [← hsl, if_pos (of_decide_eq_true hng)]; rfl, fun e => by
      rw [e] at hng; rw [← hsl, if_neg (of_decide_eq_false hng)]; rfl⟩
  have hsz : (bs sl).size ≤ 1 := by rw [← hsl, bs_size]; split <;> simp
  obtain ⟨z, hz⟩ : ∃ z, b % 2 ^ f.S = z := ⟨_, rfl⟩
  simp only [hng, hz] at hcut
  have HCut := Lib.hid hcut
  have HCl : Hid (iv ≤ z → DgAns f b n [] 6) := Lib.hid fun h => dgAns_cls hbad (by rw [hI, hz]; exact h)
  obtain ⟨N, rfl⟩ : ∃ N : Nat, n = (N : Int) := ⟨n.toNat, by omega⟩
  have HOk : Hid (∀ T, ¬ iv ≤ z → DgOk f b N T → DgAns f b (N : Int) T 0) := Lib.hid fun T h1 h2 => dgAns_ok (by omega) (by omega) (by rw [hI, hz]; exact h1) h2
  have HZe : Hid (z = 0 → DgOk f b N (sl ++ (ptd (List.replicate N 48) ++ [101] ++ Lib.itoa 0))) := Lib.hid fun h => by
    unfold DgOk
    rw [hz, hsl]
    exact ⟨fun _ => rfl, fun h2 => absurd h h2⟩
  have HFi : Hid (z ≠ 0 → ∀ t : Int, (ufF f t ≤ 2 * vP f z * ufG t ∧ 2 * vP f z * ufG (t + 1) < ufF f (t + 1)) → -430 ≤ t → t ≤ 430 → DgOk f b N (sl ++ (ptd (dgD (nrN f z (t - N + 1)) N) ++ [101] ++ Lib.itoa (dgX (nrN f z (t - N + 1)) N t)))) := Lib.hid fun h t h1 h2 h3 => by
    unfold DgOk
    rw [hz, hsl]
    exact ⟨fun h2 => absurd h2 h, fun _ => ⟨t, h1, h2, h3, rfl⟩⟩
  have HPz := Lib.hid (fun (h : z < iv) W => hPa z W (by rw [hI]; exact h))
  have HI := Lib.hid (And.intro hI hf)
  have HNb := Lib.hid (show 1 ≤ N ∧ N ≤ 800 by omega)
  clear hCk hOf hCut hcut hng hz hsl hI hPa hbad hf
  go_enter Tryz.func115, Tryz.ntmps115
  go_wp2_with fail
  refine (HOf.out _).mono ?_
  rintro e w1 ⟨rfl, hb1⟩
  have HB0 := Lib.hid (BxS.new hb1 sg P L G (iv : Int) Q)
  clear hb1
  go_wp2_with fail
  refine (HCk.out _).mono ?_
  rintro e w2 ⟨rfl, hb2⟩
  have HB := Lib.hid (HB0.out.below hb2)
  have x0 := HB.out.x0
  have x1 := HB.out.x1
  have x2 := HB.out.x2
  have x3 := HB.out.x3
  have x4 := HB.out.x4
  have x5 := HB.out.x5
  obtain ⟨g, hg⟩ : ∃ g, w1.heap.size = g := ⟨_, rfl⟩
  rw [hg] at HB x0 x1 x2 x3 x4 x5 ⊢
  clear hb2 HB0 hg
  go_wp2_with fail
  refine (HCut.out _).mono ?_
  rintro e w3 ⟨rfl, hb3⟩
  have HB3 := Lib.hid (HB.out.below hb3)
  clear x0 x1 x2 x3 x4 x5
  have x0 := HB3.out.x0
  have x1 := HB3.out.x1
  have x2 := HB3.out.x2
  have x3 := HB3.out.x3
  have x4 := HB3.out.x4
  have x5 := HB3.out.x5
  clear hb3 HB HCk HOf HCut
  obtain ⟨M, hM⟩ : ∃ M, bs sl = M := ⟨_, rfl⟩
  rw [hM] at HSl hsz
  have HM := Lib.hid hM
  clear hM
  by_cases c1 : iv ≤ z
  · have g1 : (iv : Int) ≤ (z : Int) := by omega
    have HE := Lib.hid (HCl.out c1)
    clear c1
    cases ng
    all_goals
      go_wp2
      go_ret2
      exact ⟨[], 6, rfl, HE.out, HB3.out.bl⟩
  have g1 : ¬ (iv : Int) ≤ (z : Int) := by omega
  by_cases c3 : z = 0
  · have HE := Lib.hid (HOk.out _ c1 (HZe.out c3))
    subst c3
    have HNo := Lib.hid (fun W => rnoughts_walk (N : Int) (by omega) W)
    rw [Int.toNat_natCast] at HNo
    have HSc := Lib.hid (fun W => rsci_walk (List.replicate N 48) 0 (by rw [List.length_replicate]; exact HNb.out.1) (by rw [List.length_replicate]; have := HNb.out.2; omega) (by omega) (by omega) W)
    have hsl2 : (bs (ptd (List.replicate N 48) ++ [101] ++ Lib.itoa 0)).size ≤ 900 := by
      have h1 := itoa_len 0 (by omega) (by omega)
      have h2 := HNb.out
      rw [bs_size]
      have h3 : (ptd (List.replicate N (48 : UInt8))).length ≤ N + 1 := by
        unfold ptd
        split
        · rw [List.length_replicate]; omega
        · simp only [List.length_append, List.length_take, List.length_drop, List.length_cons, List.length_nil, List.length_replicate]; omega
      simp only [List.length_append, List.length_cons, List.length_nil]
      omega
    have HTx := Lib.hid (show M ++ bs (ptd (List.replicate N 48) ++ [101] ++ Lib.itoa 0) = bs (sl ++ (ptd (List.replicate N 48) ++ [101] ++ Lib.itoa 0)) by rw [← HM.out]; exact bs_append _ _)
    obtain ⟨Y, hY⟩ : ∃ Y, bs (ptd (List.replicate N 48) ++ [101] ++ Lib.itoa 0) = Y := ⟨_, rfl⟩
    obtain ⟨Z, hZ⟩ : ∃ Z, bs (List.replicate N (48 : UInt8)) = Z := ⟨_, rfl⟩
    rw [hY] at hsl2 HTx
    simp only [hY, hZ] at HSc HNo
    clear c1 HFi HPz hY hZ
    cases ng
    · have hm := HSl.out.2 rfl
      go_wp2_with fail
      rw [hm]
      clear hm
      refine (HNo.out _).mono ?_
      rintro e w4 ⟨rfl, hb4⟩
      have HW4 := Lib.hid (below_chain HB3.out.bl hb4)
      clear hb4 x0 x1 x2 x3 x4 x5
      go_wp2_with fail
      refine (HSc.out _).mono ?_
      rintro e w5 ⟨rfl, hb5⟩
      have HW5 := Lib.hid (below_chain HW4.out hb5)
      clear hb5
      go_wp2
      go_ret2
      exact ⟨_, _, by rw [← HTx.out]; rfl, HE.out, HW5.out⟩
    · have hm := HSl.out.1 rfl
      go_wp2_with fail
      rw [hm]
      clear hm
      refine (HNo.out _).mono ?_
      rintro e w4 ⟨rfl, hb4⟩
      have HW4 := Lib.hid (below_chain HB3.out.bl hb4)
      clear hb4 x0 x1 x2 x3 x4 x5
      go_wp2_with fail
      refine (HSc.out _).mono ?_
      rintro e w5 ⟨rfl, hb5⟩
      have HW5 := Lib.hid (below_chain HW4.out hb5)
      clear hb5
      go_wp2
      go_ret2
      exact ⟨_, _, by rw [← HTx.out]; rfl, HE.out, HW5.out⟩
  have g3 : ((z : Int) == 0) = false := by rw [beq_eq_false_iff_ne]; omega
  have hzi : z < f.inf := by rw [HI.out.1]; omega
  have hf := HI.out.2
  have hm2 : mnt f z * 2 ^ (mex f z + 1) = 2 * vP f z := by rw [vP_mnt f z, Nat.pow_succ]; ac_rfl
  have hm0 : mnt f z ≠ 0 := mnt_pos c3
  have hmx : mnt f z < 2 ^ 53 ∧ -1200 ≤ f.L + (mex f z : Int) ∧ f.L + (mex f z : Int) ≤ 1100 := by
    rcases hf with h | h
    · subst h
      obtain ⟨h1, h2⟩ := mex_S z hzi
      exact ⟨Nat.lt_of_lt_of_le h2 (by decide), by show -1200 ≤ (-149 : Int) + _; omega, by show (-149 : Int) + _ ≤ 1100; omega⟩
    · subst h
      obtain ⟨h1, h2⟩ := mex_D z hzi
      exact ⟨h2, by show -1200 ≤ (-1074 : Int) + _; omega, by show (-1074 : Int) + _ ≤ 1100; omega⟩
  obtain ⟨hmb, hxb1, hxb2⟩ := hmx
  have hUnits := fun q => units_sh (f := f) hf (z := z) (m := mnt f z) (u := mex f z) (q := q) hm2
  have hTU := fun t (h : tenIs (mnt f z) (f.L + (mex f z : Int)) t) => ten_units hf (z := z) hm2 h
  have hPz := HPz.out (by omega)
  obtain ⟨m, hm⟩ : ∃ m, mnt f z = m := ⟨_, rfl⟩
  obtain ⟨x, hx⟩ : ∃ x : Int, f.L + (mex f z : Int) = x := ⟨_, rfl⟩
  simp only [hm, hx] at hPz hm0 hmb hxb1 hxb2 hUnits hTU
  have hbm : blen m ≤ 53 := blen_le.2 hmb
  have hb1 := blen_mul m (2 ^ x.toNat)
  have hb2 := blen_pow_two x.toNat
  have hb3 := blen_pow_two (-x).toNat
  have HPt := Lib.hid (fun W => rparts_gen sg P L G (iv : Int) Q z m x (by omega) hxb1 (by omega) hPz W)
  have HPw := Lib.hid (fun nv dv W (a : DgAt W nv (m * 2 ^ x.toNat)) (b : DgAt W dv (2 ^ (-x).toNat)) => rpower_walk nv dv m x W a b hm0 (by omega) hxb1 hxb2)
  have hDp : 2 ^ (-x).toNat ≠ 0 := by have := Nat.two_pow_pos (-x).toNat; omega
  have HUn := Lib.hid (fun nv dv q W (a : DgAt W nv (m * 2 ^ x.toNat)) (b : DgAt W dv (2 ^ (-x).toNat)) (h1 : -2000 ≤ q) (h2 : q ≤ 2000) => show Calls Tryz.prog 156 #[nv, dv, .int .i64 q] W fun e w' => ∃ v, e = .returned (.tuple #[v, .int .i64 (halfC (inA m x q) (inB x q))]) ∧ DgAt w' v (shL f z q) ∧ Below W.heap.size W w' from by
    have h3 := runits_walk nv dv _ _ q W a b hDp (by omega) (by omega) h1 h2
    rw [(in_eq m x q).1, (in_eq m x q).2, (hUnits q).1] at h3
    exact h3)
  have HTU := Lib.hid hTU
  have HUni := Lib.hid (fun q => (hUnits q).2.1)
  obtain ⟨Nn, hNn⟩ : ∃ Nn, m * 2 ^ x.toNat = Nn := ⟨_, rfl⟩
  obtain ⟨Dn, hDn⟩ : ∃ Dn, 2 ^ (-x).toNat = Dn := ⟨_, rfl⟩
  simp only [hNn, hDn] at HPt HPw HUn
  have HC3 := Lib.hid c3
  have HC1 := Lib.hid c1
  clear hm2 hm0 hmb hxb1 hxb2 hUnits hTU hm hx hbm hb1 hb2 hb3 hDp hNn hDn hPz HPz hzi hf HZe HCl c1 c3
  cases ng
  · have hm := HSl.out.2 rfl
    go_wp2_with fail
    rw [hm]
    clear hm
    refine (HPt.out _).mono ?_
    rintro e w4 ⟨nv, dv, rfl, hn, hd, hb4⟩
    have HF4 := Lib.hid (show FrS w w4 nv dv Nn Dn from ⟨hn, hd, below_chain HB3.out.bl hb4⟩)
    clear hn hd hb4 x0 x1 x2 x3 x4 x5
    go_wp2_with fail
    refine (HPw.out _ _ _ HF4.out.n HF4.out.d).mono ?_
    rintro e w5 ⟨t, rfl, ht, ht1, ht2, hb5⟩
    have HF5 := Lib.hid (HF4.out.below hb5)
    have HT := Lib.hid (HTU.out t ht)
    obtain ⟨q, hq⟩ : ∃ q : Int, t - (N : Int) + 1 = q := ⟨_, rfl⟩
    have hNb := HNb.out
    have p1 : IntKind.i64.wrap (t - (N : Int)) = t - (N : Int) := by rw [IntKind.wrap_i64]; omega
    have p2 : IntKind.i64.wrap (t - (N : Int) + 1) = q := by rw [IntKind.wrap_i64]; omega
    have hsz2 := nr_size HC3.out HT.out (N - 1)
    rw [show t - ((N - 1 : Nat) : Int) = q by omega, show N - 1 + 1 = N by omega] at hsz2
    obtain ⟨_, _, hnr3, _⟩ := nr_near f z q HC3.out
    have hFin := HOk.out _ HC1.out (HFi.out HC3.out t HT.out ht1 ht2)
    rw [hq] at hFin
    have hUni := HUni.out q
    obtain ⟨hf, hhf⟩ : ∃ hf, halfC (inA m x q) (inB x q) = hf := ⟨_, rfl⟩
    have HU := Lib.hid (fun W (a : DgAt W nv Nn) (b : DgAt W dv Dn) => HUn.out nv dv q W a b (by omega) (by omega))
    obtain ⟨a, ha⟩ : ∃ a, shL f z q = a := ⟨_, rfl⟩
    obtain ⟨c, hc⟩ : ∃ c, nrN f z q = c := ⟨_, rfl⟩
    simp only [hhf] at HU hUni
    simp only [ha, hc] at HU hUni hsz2 hnr3 hFin
    have hpt := blen_pow_ten N
    have hbc := blen_mono hsz2.2
    have hba := blen_mono hnr3
    have HNr := Lib.hid (fun v W (g : DgAt W v a) => rnearer_walk v a hf W g (by rw [toD_length]; omega))
    rw [hUni] at HNr
    have HTo := Lib.hid (fun W v (g : DgAt W v c) => rtold_walk v c 1100 W g (by omega) (by omega) (by omega))
    have hdl : (10 ^ N ≤ c ∧ (Lib.decDigits c).length = N + 1) ∨ (¬ 10 ^ N ≤ c ∧ (Lib.decDigits c).length ≤ N ∧ 1 ≤ (Lib.decDigits c).length) := by
      by_cases h : 10 ^ N ≤ c
      · refine .inl ⟨h, digs_len h ?_⟩
        have : 10 ^ N < 10 ^ (N + 1) := Nat.pow_lt_pow_right (by omega) (by omega)
        omega
      · exact .inr ⟨h, decDigits_len (by omega) (by omega), by have := (dcV_digits c).2.2.2; omega⟩
    have HDl := Lib.hid hdl
    have HFin := Lib.hid hFin
    have HTr := Lib.hid (And.intro ht1 ht2)
    have pt1 : IntKind.i64.wrap (t + 1) = t + 1 := by rw [IntKind.wrap_i64]; omega
    clear ht hb5 HF4 hq hsz2 hnr3 hFin hUni hhf ha hc hpt hbc hba hdl HTU HUni HOk HFi HUn HPt HPw hNb
    go_wp2_with fail
    refine (HU.out _ HF5.out.n HF5.out.d).mono ?_
    rintro e w6 ⟨lv, rfl, hlv, hb6⟩
    have HLv := Lib.hid hlv
    have HW6 := Lib.hid (below_chain HF5.out.bl hb6)
    clear hlv hb6 HF5 HU p1 p2
    go_wp2_with fail
    refine (HNr.out _ _ HLv.out).mono ?_
    rintro e w7 ⟨cv, rfl, hcv, hb7⟩
    have HCv := Lib.hid hcv
    have HW7 := Lib.hid (below_chain HW6.out hb7)
    clear hcv hb7 HW6 HLv HNr
    go_wp2_with fail
    refine (HTo.out _ _ HCv.out).mono ?_
    rintro e w8 ⟨rfl, hb8⟩
    have HW8 := Lib.hid (below_chain HW7.out hb8)
    clear hb8 HW7 HCv HTo
    rcases HDl.out with ⟨h1, h2⟩ | ⟨h1, h2, h3⟩
    · have e1 : dgD c N = (Lib.decDigits c).take N := by unfold dgD; rw [if_pos h1]
      have e2 : dgX c N t = t + 1 := by unfold dgX; rw [if_pos h1]
      have hFin := HFin.out
      rw [e1, e2] at hFin
      have HSc := Lib.hid (fun W => rsci_walk ((Lib.decDigits c).take N) (t + 1) (by rw [List.length_take]; have := HNb.out; omega) (by rw [List.length_take]; have := HNb.out; omega) (by omega) (by omega) W)
      have hs2 : (bs (ptd ((Lib.decDigits c).take N) ++ [101] ++ Lib.itoa (t + 1))).size ≤ 900 := by
        have h4 := itoa_len (t + 1) (by omega) (by omega)
        have h5 := HNb.out
        rw [bs_size]
        have h6 : (ptd ((Lib.decDigits c).take N)).length ≤ N + 1 := by
          unfold ptd
          split
          · rw [List.length_take]; omega
          · simp only [List.length_append, List.length_take, List.length_drop, List.length_cons, List.length_nil]; omega
        simp only [List.length_append, List.length_cons, List.length_nil]
        omega
      have HTx := Lib.hid (show M ++ bs (ptd ((Lib.decDigits c).take N) ++ [101] ++ Lib.itoa (t + 1)) = bs (sl ++ (ptd ((Lib.decDigits c).take N) ++ [101] ++ Lib.itoa (t + 1))) by rw [← HM.out]; exact bs_append _ _)
      have hex : (bs (Lib.decDigits c)).extract 0 N = bs ((Lib.decDigits c).take N) := bs_take _ _
      have hsz8 : (bs (Lib.decDigits c)).size = N + 1 := by rw [bs_size]; exact h2
      have HFn := Lib.hid hFin
      obtain ⟨Y, hY⟩ : ∃ Y, bs (ptd ((Lib.decDigits c).take N) ++ [101] ++ Lib.itoa (t + 1)) = Y := ⟨_, rfl⟩
      obtain ⟨S, hS⟩ : ∃ S, bs (Lib.decDigits c) = S := ⟨_, rfl⟩
      obtain ⟨R, hR⟩ : ∃ R, bs ((Lib.decDigits c).take N) = R := ⟨_, rfl⟩
      rw [hY] at hs2 HTx
      simp only [hY, hR] at HSc
      rw [hS, hR] at hex
      rw [hS] at hsz8 ⊢
      have r1 : (N : Int) < (S.size : Int) := by omega
      have r2 : (N : Int) ≤ (S.size : Int) := by omega
      clear h1 h2 e1 e2 hFin hsz8 hY hS hR
      go_wp2_with fail
      refine (HSc.out _).mono ?_
      rintro e w9 ⟨rfl, hb9⟩
      have HW9 := Lib.hid (below_chain HW8.out hb9)
      clear hb9 hex r1 r2
      go_wp2
      go_ret2
      exact ⟨_, _, by rw [← HTx.out]; rfl, HFn.out, HW9.out⟩
    · have e1 : dgD c N = Lib.decDigits c := by unfold dgD; rw [if_neg h1]
      have e2 : dgX c N t = t := by unfold dgX; rw [if_neg h1]
      have hFin := HFin.out
      rw [e1, e2] at hFin
      have HSc := Lib.hid (fun W => rsci_walk (Lib.decDigits c) t h3 (by have := HNb.out; omega) (by omega) (by omega) W)
      have hs2 : (bs (ptd (Lib.decDigits c) ++ [101] ++ Lib.itoa t)).size ≤ 900 := by
        have h4 := itoa_len t (by omega) (by omega)
        have h5 := HNb.out
        rw [bs_size]
        have h6 : (ptd (Lib.decDigits c)).length ≤ N + 1 := by
          unfold ptd
          split
          · omega
          · simp only [List.length_append, List.length_take, List.length_drop, List.length_cons, List.length_nil]; omega
        simp only [List.length_append, List.length_cons, List.length_nil]
        omega
      have HTx := Lib.hid (show M ++ bs (ptd (Lib.decDigits c) ++ [101] ++ Lib.itoa t) = bs (sl ++ (ptd (Lib.decDigits c) ++ [101] ++ Lib.itoa t)) by rw [← HM.out]; exact bs_append _ _)
      have hsz8 : (bs (Lib.decDigits c)).size ≤ N := by rw [bs_size]; exact h2
      have HFn := Lib.hid hFin
      obtain ⟨Y, hY⟩ : ∃ Y, bs (ptd (Lib.decDigits c) ++ [101] ++ Lib.itoa t) = Y := ⟨_, rfl⟩
      obtain ⟨S, hS⟩ : ∃ S, bs (Lib.decDigits c) = S := ⟨_, rfl⟩
      rw [hY] at hs2 HTx
      simp only [hY, hS] at HSc
      rw [hS] at hsz8 ⊢
      have r1 : ¬ (N : Int) < (S.size : Int) := by omega
      clear h1 h2 h3 e1 e2 hFin hsz8 hY hS
      go_wp2_with fail
      refine (HSc.out _).mono ?_
      rintro e w9 ⟨rfl, hb9⟩
      have HW9 := Lib.hid (below_chain HW8.out hb9)
      clear hb9 r1
      go_wp2
      go_ret2
      exact ⟨_, _, by rw [← HTx.out]; rfl, HFn.out, HW9.out⟩
  · have hm := HSl.out.1 rfl
    go_wp2_with fail
    rw [hm]
    clear hm
    refine (HPt.out _).mono ?_
    rintro e w4 ⟨nv, dv, rfl, hn, hd, hb4⟩
    have HF4 := Lib.hid (show FrS w w4 nv dv Nn Dn from ⟨hn, hd, below_chain HB3.out.bl hb4⟩)
    clear hn hd hb4 x0 x1 x2 x3 x4 x5
    go_wp2_with fail
    refine (HPw.out _ _ _ HF4.out.n HF4.out.d).mono ?_
    rintro e w5 ⟨t, rfl, ht, ht1, ht2, hb5⟩
    have HF5 := Lib.hid (HF4.out.below hb5)
    have HT := Lib.hid (HTU.out t ht)
    obtain ⟨q, hq⟩ : ∃ q : Int, t - (N : Int) + 1 = q := ⟨_, rfl⟩
    have hNb := HNb.out
    have p1 : IntKind.i64.wrap (t - (N : Int)) = t - (N : Int) := by rw [IntKind.wrap_i64]; omega
    have p2 : IntKind.i64.wrap (t - (N : Int) + 1) = q := by rw [IntKind.wrap_i64]; omega
    have hsz2 := nr_size HC3.out HT.out (N - 1)
    rw [show t - ((N - 1 : Nat) : Int) = q by omega, show N - 1 + 1 = N by omega] at hsz2
    obtain ⟨_, _, hnr3, _⟩ := nr_near f z q HC3.out
    have hFin := HOk.out _ HC1.out (HFi.out HC3.out t HT.out ht1 ht2)
    rw [hq] at hFin
    have hUni := HUni.out q
    obtain ⟨hf, hhf⟩ : ∃ hf, halfC (inA m x q) (inB x q) = hf := ⟨_, rfl⟩
    have HU := Lib.hid (fun W (a : DgAt W nv Nn) (b : DgAt W dv Dn) => HUn.out nv dv q W a b (by omega) (by omega))
    obtain ⟨a, ha⟩ : ∃ a, shL f z q = a := ⟨_, rfl⟩
    obtain ⟨c, hc⟩ : ∃ c, nrN f z q = c := ⟨_, rfl⟩
    simp only [hhf] at HU hUni
    simp only [ha, hc] at HU hUni hsz2 hnr3 hFin
    have hpt := blen_pow_ten N
    have hbc := blen_mono hsz2.2
    have hba := blen_mono hnr3
    have HNr := Lib.hid (fun v W (g : DgAt W v a) => rnearer_walk v a hf W g (by rw [toD_length]; omega))
    rw [hUni] at HNr
    have HTo := Lib.hid (fun W v (g : DgAt W v c) => rtold_walk v c 1100 W g (by omega) (by omega) (by omega))
    have hdl : (10 ^ N ≤ c ∧ (Lib.decDigits c).length = N + 1) ∨ (¬ 10 ^ N ≤ c ∧ (Lib.decDigits c).length ≤ N ∧ 1 ≤ (Lib.decDigits c).length) := by
      by_cases h : 10 ^ N ≤ c
      · refine .inl ⟨h, digs_len h ?_⟩
        have : 10 ^ N < 10 ^ (N + 1) := Nat.pow_lt_pow_right (by omega) (by omega)
        omega
      · exact .inr ⟨h, decDigits_len (by omega) (by omega), by have := (dcV_digits c).2.2.2; omega⟩
    have HDl := Lib.hid hdl
    have HFin := Lib.hid hFin
    have HTr := Lib.hid (And.intro ht1 ht2)
    have pt1 : IntKind.i64.wrap (t + 1) = t + 1 := by rw [IntKind.wrap_i64]; omega
    clear ht hb5 HF4 hq hsz2 hnr3 hFin hUni hhf ha hc hpt hbc hba hdl HTU HUni HOk HFi HUn HPt HPw hNb
    go_wp2_with fail
    refine (HU.out _ HF5.out.n HF5.out.d).mono ?_
    rintro e w6 ⟨lv, rfl, hlv, hb6⟩
    have HLv := Lib.hid hlv
    have HW6 := Lib.hid (below_chain HF5.out.bl hb6)
    clear hlv hb6 HF5 HU p1 p2
    go_wp2_with fail
    refine (HNr.out _ _ HLv.out).mono ?_
    rintro e w7 ⟨cv, rfl, hcv, hb7⟩
    have HCv := Lib.hid hcv
    have HW7 := Lib.hid (below_chain HW6.out hb7)
    clear hcv hb7 HW6 HLv HNr
    go_wp2_with fail
    refine (HTo.out _ _ HCv.out).mono ?_
    rintro e w8 ⟨rfl, hb8⟩
    have HW8 := Lib.hid (below_chain HW7.out hb8)
    clear hb8 HW7 HCv HTo
    rcases HDl.out with ⟨h1, h2⟩ | ⟨h1, h2, h3⟩
    · have e1 : dgD c N = (Lib.decDigits c).take N := by unfold dgD; rw [if_pos h1]
      have e2 : dgX c N t = t + 1 := by unfold dgX; rw [if_pos h1]
      have hFin := HFin.out
      rw [e1, e2] at hFin
      have HSc := Lib.hid (fun W => rsci_walk ((Lib.decDigits c).take N) (t + 1) (by rw [List.length_take]; have := HNb.out; omega) (by rw [List.length_take]; have := HNb.out; omega) (by omega) (by omega) W)
      have hs2 : (bs (ptd ((Lib.decDigits c).take N) ++ [101] ++ Lib.itoa (t + 1))).size ≤ 900 := by
        have h4 := itoa_len (t + 1) (by omega) (by omega)
        have h5 := HNb.out
        rw [bs_size]
        have h6 : (ptd ((Lib.decDigits c).take N)).length ≤ N + 1 := by
          unfold ptd
          split
          · rw [List.length_take]; omega
          · simp only [List.length_append, List.length_take, List.length_drop, List.length_cons, List.length_nil]; omega
        simp only [List.length_append, List.length_cons, List.length_nil]
        omega
      have HTx := Lib.hid (show M ++ bs (ptd ((Lib.decDigits c).take N) ++ [101] ++ Lib.itoa (t + 1)) = bs (sl ++ (ptd ((Lib.decDigits c).take N) ++ [101] ++ Lib.itoa (t + 1))) by rw [← HM.out]; exact bs_append _ _)
      have hex : (bs (Lib.decDigits c)).extract 0 N = bs ((Lib.decDigits c).take N) := bs_take _ _
      have hsz8 : (bs (Lib.decDigits c)).size = N + 1 := by rw [bs_size]; exact h2
      have HFn := Lib.hid hFin
      obtain ⟨Y, hY⟩ : ∃ Y, bs (ptd ((Lib.decDigits c).take N) ++ [101] ++ Lib.itoa (t + 1)) = Y := ⟨_, rfl⟩
      obtain ⟨S, hS⟩ : ∃ S, bs (Lib.decDigits c) = S := ⟨_, rfl⟩
      obtain ⟨R, hR⟩ : ∃ R, bs ((Lib.decDigits c).take N) = R := ⟨_, rfl⟩
      rw [hY] at hs2 HTx
      simp only [hY, hR] at HSc
      rw [hS, hR] at hex
      rw [hS] at hsz8 ⊢
      have r1 : (N : Int) < (S.size : Int) := by omega
      have r2 : (N : Int) ≤ (S.size : Int) := by omega
      clear h1 h2 e1 e2 hFin hsz8 hY hS hR
      go_wp2_with fail
      refine (HSc.out _).mono ?_
      rintro e w9 ⟨rfl, hb9⟩
      have HW9 := Lib.hid (below_chain HW8.out hb9)
      clear hb9 hex r1 r2
      go_wp2
      go_ret2
      exact ⟨_, _, by rw [← HTx.out]; rfl, HFn.out, HW9.out⟩
    · have e1 : dgD c N = Lib.decDigits c := by unfold dgD; rw [if_neg h1]
      have e2 : dgX c N t = t := by unfold dgX; rw [if_neg h1]
      have hFin := HFin.out
      rw [e1, e2] at hFin
      have HSc := Lib.hid (fun W => rsci_walk (Lib.decDigits c) t h3 (by have := HNb.out; omega) (by omega) (by omega) W)
      have hs2 : (bs (ptd (Lib.decDigits c) ++ [101] ++ Lib.itoa t)).size ≤ 900 := by
        have h4 := itoa_len t (by omega) (by omega)
        have h5 := HNb.out
        rw [bs_size]
        have h6 : (ptd (Lib.decDigits c)).length ≤ N + 1 := by
          unfold ptd
          split
          · omega
          · simp only [List.length_append, List.length_take, List.length_drop, List.length_cons, List.length_nil]; omega
        simp only [List.length_append, List.length_cons, List.length_nil]
        omega
      have HTx := Lib.hid (show M ++ bs (ptd (Lib.decDigits c) ++ [101] ++ Lib.itoa t) = bs (sl ++ (ptd (Lib.decDigits c) ++ [101] ++ Lib.itoa t)) by rw [← HM.out]; exact bs_append _ _)
      have hsz8 : (bs (Lib.decDigits c)).size ≤ N := by rw [bs_size]; exact h2
      have HFn := Lib.hid hFin
      obtain ⟨Y, hY⟩ : ∃ Y, bs (ptd (Lib.decDigits c) ++ [101] ++ Lib.itoa t) = Y := ⟨_, rfl⟩
      obtain ⟨S, hS⟩ : ∃ S, bs (Lib.decDigits c) = S := ⟨_, rfl⟩
      rw [hY] at hs2 HTx
      simp only [hY, hS] at HSc
      rw [hS] at hsz8 ⊢
      have r1 : ¬ (N : Int) < (S.size : Int) := by omega
      clear h1 h2 h3 e1 e2 hFin hsz8 hY hS
      go_wp2_with fail
      refine (HSc.out _).mono ?_
      rintro e w9 ⟨rfl, hb9⟩
      have HW9 := Lib.hid (below_chain HW8.out hb9)
      clear hb9 r1
      go_wp2
      go_ret2
      exact ⟨_, _, by rw [← HTx.out]; rfl, HFn.out, HW9.out⟩
end Go.Proofs.YtmfjimmodaofdaaGreatDoor
