/- Walk of the law Exactly. -/
import Derived.Test.YtmfjimmodaofdaaGreatDoorDp
import Derived.Test.YtmfjimmodaofdaaGreatDoorDc
import Derived.Test.YtmfjimmodaofdaaGreatDoorPz
import Derived.Test.YtmfjimmodaofdaaGreatDoorLx
import Derived.Test.YtmfjimmodaofdaaGreatDoorLt
namespace Go.Proofs.YtmfjimmodaofdaaGreatDoor
open Go.RowKit

theorem value_sgn (f : Fm) (hf : f.ok) (b : Nat) (hb : b < 2 ^ (f.S + 1)) (h0 : b % 2 ^ f.S ≠ 0) (hz : b % 2 ^ f.S < f.inf) (w : World) (ht : Tab64 w) :
    Calls Tryz.prog 33 #[.int .i64 (fmt f), .int .u64 (b : Int)] w fun e w' => ∃ (m u : Nat) (s : Value), e = .returned (.tuple #[.agg #[.bool (decide (2 ^ f.S ≤ b)), s, .int .i64 (f.L + (u : Int))], .int .i64 0]) ∧ NatAt w' s m ∧ m % 2 = 1 ∧ m * 2 ^ u = vP f (b % 2 ^ f.S) ∧ blen m ≤ 64 ∧ f.L + (u : Int) ≤ 1026 ∧ Below w.heap.size w w' := by
  have hP := (Fm.ok.facts hf).1
  have hPl : f.P ≤ 53 := by rcases hf with h | h <;> subst h <;> decide
  obtain ⟨z, hzz⟩ : ∃ z, b % 2 ^ f.S = z := ⟨_, rfl⟩
  rw [hzz] at h0 hz ⊢
  have conv : ∀ m u : Nat, m % 2 = 1 → m * 2 ^ u = vP f z → blen m ≤ 64 ∧ f.L + (u : Int) ≤ 1026 := fun m u ho hv => by
    have hle : m ≤ mnt f z := odd_le ho (by rw [hv, vP_mnt])
    have hlt := mnt_lt hP z
    refine ⟨?_, ?_⟩
    · exact Nat.le_trans (blen_le.2 (Nat.lt_of_le_of_lt hle hlt)) (by omega)
    · exact exp_top hf ho hv (by have := (md_top f hz).1; omega)
  rcases hf with h | h <;> subst h
  · rw [inf_S] at hz
    have e : b % 2147483648 = z := hzz
    refine (value_S b hb (by rw [e]; exact hz) (by rw [e]; exact h0) w ht).mono ?_
    rintro r w' ⟨m, u, s, rfl, hn, ho, hv, _, hbl⟩
    rw [e] at hv
    obtain ⟨c3, c4⟩ := conv m u ho hv
    exact ⟨m, u, s, rfl, hn, ho, hv, c3, c4, hbl⟩
  · rw [inf_D] at hz
    have e : b % 9223372036854775808 = z := hzz
    refine (value_D b hb (by rw [e]; exact hz) (by rw [e]; exact h0) w ht).mono ?_
    rintro r w' ⟨m, u, s, rfl, hn, ho, hv, _, hbl⟩
    rw [e] at hv
    obtain ⟨c3, c4⟩ := conv m u ho hv
    exact ⟨m, u, s, rfl, hn, ho, hv, c3, c4, hbl⟩
theorem Box3.far {W : World} {g g' : Nat} {x0 x1 x2 u0 u1 u2 : Value} (h : Box3 W g x0 x1 x2) (hne : g' ≠ g) : Box3 (put3 W g' u0 u1 u2) g x0 x1 x2 := by
  obtain ⟨h0, h1, h2, f0, f1, f2, hl⟩ := h
  have far : ∀ j (v : Value), W.cell? ⟨g, j, none⟩ = some v → (put3 W g' u0 u1 u2).cell? ⟨g, j, none⟩ = some v := fun j v hv => by
    unfold put3
    rw [cell_other (fun e => hne (congrArg Addr.block e)), cell_other (fun e => hne (congrArg Addr.block e)), cell_other (fun e => hne (congrArg Addr.block e))]; exact hv
  exact ⟨far 0 _ h0, far 1 _ h1, far 2 _ h2, by unfold put3; simpa using f0, by unfold put3; simpa using f1, by unfold put3; simpa using f2, by unfold put3; simpa using hl⟩
/-- The three numbers in memory. -/
structure ExS (w w' : World) (gv gw gp : Nat) (ng : Bool) (sv sw sp : Value) (xv xw xp : Int) (ov ow op : Nat) : Prop where
  v : Box3 w' gv (.bool ng) sv (.int .i64 xv)
  wb : Box3 w' gw (.bool ng) sw (.int .i64 xw)
  pb : Box3 w' gp (.bool false) sp (.int .i64 xp)
  nv : NatAt w' sv ov
  nw : NatAt w' sw ow
  np : NatAt w' sp op
  bl : Below w.heap.size w w'
theorem ExS.below {w w1 w2 : World} {gv gw gp : Nat} {ng : Bool} {sv sw sp : Value} {xv xw xp : Int} {ov ow op : Nat} (h : ExS w w1 gv gw gp ng sv sw sp xv xw xp ov ow op) (hb : Below w1.heap.size w1 w2) : ExS w w2 gv gw gp ng sv sw sp xv xw xp ov ow op :=
  ⟨h.v.below hb, h.wb.below hb, h.pb.below hb, h.nv.below hb, h.nw.below hb, h.np.below hb, below_chain h.bl hb⟩
theorem sci_first {M b : Nat} {D : List UInt8} {R : List UInt8} (hD : D.all isDec = true) (hD0 : 1 ≤ D.length) : ((((by8 (bs ((if M ≤ b then [45] else []) ++ (ptd D ++ [101] ++ R))) 0).toNat : Nat) : Int) == 45) = decide (M ≤ b) := by
  by_cases h : M ≤ b
  · rw [if_pos h, decide_eq_true h]; rfl
  · rw [if_neg h, decide_eq_false h, List.nil_append]
    cases D with
    | nil => simp at hD0
    | cons c t =>
      rw [List.all_cons, Bool.and_eq_true] at hD
      have hc := isDec_range c hD.1
      have e : ∃ l, ptd (c :: t) ++ [101] ++ R = c :: l := by
        unfold ptd
        split
        · exact ⟨_, rfl⟩
        · exact ⟨_, rfl⟩
      obtain ⟨l, hl⟩ := e
      rw [hl]
      have e2 : by8 (bs (c :: l)) 0 = c := rfl
      rw [e2, beq_eq_false_iff_ne]
      omega

set_option maxRecDepth 100000 in
set_option maxHeartbeats 8000000 in
theorem exactly_walk (d : Bool) (b : Nat) (hb : b < 18446744073709551616) (w : World) (ht : Tab64 w) (h10 : Tab10 w) :
    Calls Tryz.prog 11 #[.bool d, .int .u64 (b : Int)] w fun r w' => r = .returned (.bool true) ∧ Below w.heap.size w w' := by
  have hF := format_walk d w
  have hC := fun W => pat_walk d b hb W
  have hpl := pB_lt d hb
  have hA := fun W (h : Below w.heap.size w W) => awake_walk W (ht.below h) (h10.below h)
  have hcf := cls_fin (fmB_ok d) (pB d b % 2 ^ (fmB d).S)
  have hcc := cls_cases (fmB d) (pB d b % 2 ^ (fmB d).S)
  have hDg := fun W (h : Below w.heap.size w W) => ddg_any (fmB d) (fmB_ok d) (pB d b) hpl 800 W (ht.below h) (h10.below h)
  have hV := fun h0 hz W (h : Below w.heap.size w W) => value_sgn (fmB d) (fmB_ok d) (pB d b) hpl h0 hz W (ht.below h)
  have hS := fun W => lsign_walk d W
  have hF0 := fmB_ok d
  obtain ⟨F, hFd⟩ : ∃ F, fmB d = F := ⟨_, rfl⟩
  rw [hFd] at hF hC hDg hV hcf hcc hF0 hpl hS
  obtain ⟨p, hp⟩ : ∃ p, pB d b = p := ⟨_, rfl⟩
  rw [hp] at hC hDg hV hcf hcc hpl
  obtain ⟨FF, hFF⟩ : ∃ FF, fmt F = FF := ⟨_, rfl⟩
  rw [hFF] at hF hDg hV hS
  obtain ⟨c, hc⟩ : ∃ c, clsF F (p % 2 ^ F.S) = c := ⟨_, rfl⟩
  rw [hc] at hC hcf hcc
  have hLb : -1074 ≤ F.L ∧ F.L < 0 := ⟨(Fm.ok.facts hF0).2.1, (Fm.ok.facts hF0).2.2.1⟩
  have HF := Lib.hid hF
  have HC := Lib.hid hC
  have HA := Lib.hid hA
  have HT := Lib.hid ht
  clear hF hC hA hFd hFF hp hc h10 hb ht
  by_cases hfin : c = 1 ∨ c = 2
  case neg =>
    have hn1 : ((c : Int) == 1) = false := by rw [beq_eq_false_iff_ne]; omega
    have hn2 : ((c : Int) == 2) = false := by rw [beq_eq_false_iff_ne]; omega
    have hm1 : ((c : Int) != 1) = true := by rw [bne, hn1]; rfl
    have hm2 : ((c : Int) != 2) = true := by rw [bne, hn2]; rfl
    clear hfin hcf hcc hDg hV hS hF0 hpl hLb HT
    go_enter Tryz.func11, Tryz.ntmps11
    go_wp2_with fail
    refine HF.out.mono ?_
    rintro r w0 ⟨rfl, hw0⟩
    have h := hw0.symm
    subst h
    clear hw0 HF
    go_wp2_with fail
    refine (HC.out _).mono ?_
    rintro r w1 ⟨rfl, hb1⟩
    have HW1 := Lib.hid hb1
    clear hb1 HC
    go_wp2_with fail
    refine (HA.out _ HW1.out).mono ?_
    rintro r w2 ⟨rfl, hb2⟩
    go_wp2
    go_ret
    exact ⟨rfl, below_chain HW1.out hb2⟩
  obtain ⟨h0, hz⟩ := hcf.1 hfin
  have HDg := Lib.hid (fun W (h : Below w.heap.size w W) => (hDg W h).mono (fun e w' hh => show ∃ (T D : List UInt8) (y : Int), e = .returned (.tuple #[.string (bs T), .int .i64 0]) ∧ (T = (if 2 ^ F.S ≤ p then [45] else []) ++ (ptd D ++ [101] ++ Lib.itoa y) ∧ D.all isDec = true ∧ D.length = 800 ∧ -440 ≤ y ∧ y ≤ 440 ∧ digS T = tl0 D ∧ (tl0 D).all isDec = true ∧ 1 ≤ (tl0 D).length ∧ (tl0 D).length ≤ 800 ∧ dcV (tl0 D) ≠ 0 ∧ dcV (tl0 D) * ufF F (y - ((tl0 D).length : Int) + 1) = 2 * vP F (p % 2 ^ F.S) * ufG (y - ((tl0 D).length : Int) + 1)) ∧ Below W.heap.size W w' from by
    obtain ⟨T, k, e1, hans, e2⟩ := hh
    unfold DgAns at hans
    rw [if_neg (by omega), if_neg (by omega)] at hans
    obtain ⟨rfl, hok⟩ := hans
    rw [show (800 : Int).toNat = 800 from rfl] at hok
    obtain ⟨D, y, g⟩ := dg_exact hF0 h0 rfl hok
    exact ⟨T, D, y, e1, g, e2⟩))
  have HV := Lib.hid (hV h0 hz)
  obtain ⟨L, hL⟩ : ∃ L, F.L = L := ⟨_, rfl⟩
  have HLe := Lib.hid (And.intro hL hF0)
  rw [hL] at HV hLb
  obtain ⟨SG, hSG⟩ : ∃ SG, 2 ^ F.S = SG := ⟨_, rfl⟩
  obtain ⟨z, hzz⟩ : ∃ z, p % 2 ^ F.S = z := ⟨_, rfl⟩
  rw [hzz] at HDg HV
  rw [hSG] at HDg HV hS
  obtain ⟨ng, hng⟩ : ∃ ng, decide (SG ≤ p) = ng := ⟨_, rfl⟩
  have hng2 : decide ((SG : Int) ≤ (p : Int)) = ng := by rw [← hng, decide_eq_decide]; omega
  rw [hng] at HV
  have HNg := Lib.hid (And.intro hng hng2)
  have HS := Lib.hid hS
  have hmm : ∃ x1 x2, ((c : Int) != 1) = x1 ∧ ((c : Int) != 2) = x2 ∧ (x1 && x2) = false ∧ (x1 = false ∨ (x1 = true ∧ x2 = false)) := by
    rcases hfin with h | h <;> subst h <;> exact ⟨_, _, rfl, rfl, by decide, by decide⟩
  obtain ⟨m1, m2, hm1, hm2, _, hm12⟩ := hmm
  clear hcf hcc hDg hV hF0 hpl h0 hz hL hSG hzz hng hng2 hS hfin
  rcases hm12 with hh | ⟨hh1, hh2⟩
  all_goals
    first | subst hh | (subst hh1; subst hh2)
    go_enter Tryz.func11, Tryz.ntmps11
    go_wp2_with fail
    refine HF.out.mono ?_
    rintro r w0 ⟨rfl, hw0⟩
    have h := hw0.symm
    subst h
    clear hw0 HF
    go_wp2_with fail
    refine (HC.out _).mono ?_
    rintro r w1 ⟨rfl, hb1⟩
    have HW1 := Lib.hid hb1
    clear hb1 HC
    go_wp2_with fail
    refine (HA.out _ HW1.out).mono ?_
    rintro r w2 ⟨rfl, hb2⟩
    have HW2 := Lib.hid (below_chain HW1.out hb2)
    clear hb2 HA HW1
    go_wp2_with fail
    refine (HDg.out _ HW2.out).mono ?_
    rintro r w3 ⟨T, D, y, rfl, ⟨hT, hD, hDl, hy1, hy2, hdig, hdd, hd1, hd2, hd0, hex⟩, hb3⟩
    have HW3 := Lib.hid (below_chain HW2.out hb3)
    have hTl : T.length ≤ 1000 := by
      have h1 := itoa_len y (by omega) (by omega)
      have h2 : (if SG ≤ p then [45] else [] : List UInt8).length ≤ 1 := by split <;> simp
      have h3 : (ptd D).length ≤ 801 := by
        unfold ptd
        split
        · omega
        · simp only [List.length_append, List.length_take, List.length_drop, List.length_cons, List.length_nil]; omega
      rw [hT]
      simp only [List.length_append, List.length_cons, List.length_nil]
      omega
    have hPl := Lib.hid (fun W => lplace_walk ((if SG ≤ p then [45] else []) ++ ptd D) y (fun x hx => by
      rcases List.mem_append.1 hx with h | h
      · exact sg_mem (sgS_ok p SG).1 h
      · exact ptd_mem hD h) (by
        have := congrArg List.length hT
        simp only [List.length_append, List.length_cons, List.length_nil] at this ⊢
        omega) (by omega) (by omega) W)
    rw [show (if SG ≤ p then [45] else [] : List UInt8) ++ ptd D ++ [101] ++ Lib.itoa y = T by rw [hT]; simp] at hPl
    have hfst := sci_first (M := SG) (b := p) (D := D) (R := Lib.itoa y) hD (by omega)
    rw [← hT] at hfst
    have HDi := Lib.hid (fun W => ldigits_walk T (by omega) W)
    rw [hdig] at HDi
    obtain ⟨DD, hDD⟩ : ∃ DD, tl0 D = DD := ⟨_, rfl⟩
    rw [hDD] at HDi hdd hd1 hd2 hd0 hex
    have hTs : 1 ≤ T.length := by rw [hT]; simp; omega
    have hTsz := bs_size T
    obtain ⟨TB, hTB⟩ : ∃ TB, bs T = TB := ⟨_, rfl⟩
    rw [hTB] at HDi hPl hfst hTsz ⊢
    have HFst := Lib.hid (And.intro hfst (And.intro hTsz (And.intro hTs hTl)))
    obtain ⟨LB, hLB⟩ : ∃ LB, bs DD = LB := ⟨_, rfl⟩
    have hLs : LB.size = DD.length := by rw [← hLB, bs_size]
    have hLd : LB.data.toList = DD := by rw [← hLB]; exact bs_dl DD
    rw [hLB] at HDi
    have HRd := Lib.hid (fun W => nread_walk LB W (by omega) (by omega) (by rw [hLd]; exact dec_all hdd))
    rw [hLd] at HRd
    obtain ⟨mm, hmm⟩ : ∃ mm, dcV DD = mm := ⟨_, rfl⟩
    rw [hmm] at HRd hd0 hex
    have hmb : blen mm ≤ 3300 := by
      have h1 := dcV_lt (dec_all hdd)
      rw [hmm] at h1
      have h2 := blen_mono (Nat.le_of_lt h1)
      have h3 := blen_pow_ten DD.length
      omega
    obtain ⟨l, hl⟩ : ∃ l, DD.length = l := ⟨_, rfl⟩
    rw [hl] at hd1 hd2 hex hLs
    have hemp : LB.toList.isEmpty = false := by rw [empty_iff, hLs]; exact decide_eq_false (by omega)
    obtain ⟨ex, hexx⟩ : ∃ ex : Int, y - (l : Int) + 1 = ex := ⟨_, rfl⟩
    rw [hexx] at hex
    have HEx := Lib.hid hex
    have HI := Lib.hid (show 1 ≤ l ∧ l ≤ 800 ∧ -440 ≤ y ∧ y ≤ 440 ∧ y - (l : Int) + 1 = ex ∧ LB.size = l ∧ mm ≠ 0 ∧ blen mm ≤ 3300 from ⟨hd1, hd2, hy1, hy2, hexx, hLs, hd0, hmb⟩)
    clear hb3 HDg HW2 hT hD hDl hdig hdd hDD hTB hLB hLd hmm hl hexx hex hfst hTsz hTs hTl hmb hd0 hLs hy1 hy2 hd1 hd2
    go_wp2_with fail
    refine (HDi.out _).mono ?_
    rintro r w4 ⟨rfl, hb4⟩
    have HW4 := Lib.hid (below_chain HW3.out hb4)
    clear hb4 HDi HW3
    go_wp2_with fail
    refine (HRd.out _).mono ?_
    rintro r w5 ⟨s5, rfl, hn5, hb5⟩
    have HW5 := Lib.hid (below_chain HW4.out hb5)
    have HN5 := Lib.hid hn5
    obtain ⟨A5, c5, rfl, hc5, hr5⟩ := hn5
    obtain ⟨n5, hn5⟩ : ∃ n, (toL mm).length = n := ⟨_, rfl⟩
    rw [hn5] at HN5 ⊢
    clear hb5 HRd HW4 hc5 hr5 hn5
    go_wp2_with fail
    refine (HV.out _ HW5.out).mono ?_
    rintro r w6 ⟨ov, u, s6, rfl, hn6, hov, hovv, hovb, hovx, hb6⟩
    have hb7 := below_alloc' w6 (.cells #[.bool ng, s6, .int .i64 (L + (u : Int))] 46)
    have HN7 := Lib.hid (hn6.below hb7)
    have HN57 := Lib.hid ((HN5.out.below hb6).below hb7)
    have HW7 := Lib.hid (below_chain (below_chain HW5.out hb6) hb7)
    have HV7 : Hid (Box3 (w6.alloc (.cells #[.bool ng, s6, .int .i64 (L + (u : Int))] 46)) w6.heap.size (.bool ng) s6 (.int .i64 (L + (u : Int)))) := Lib.hid ⟨by simp, by simp, by simp, by simp, by simp, by simp, by simp⟩
    have HO := Lib.hid (show ov % 2 = 1 ∧ ov * 2 ^ u = vP F z ∧ blen ov ≤ 64 ∧ L + (u : Int) ≤ 1026 ∧ w.heap.size ≤ w6.heap.size from ⟨hov, hovv, hovb, hovx, (below_chain HW5.out hb6).size⟩)
    obtain ⟨A6, c6, rfl, hc6, hr6⟩ := hn6
    obtain ⟨n6, hn6⟩ : ∃ n, (toL ov).length = n := ⟨_, rfl⟩
    rw [hn6] at HN7 HN57 HW7 HV7 ⊢
    have hng2 := HNg.out.1
    clear hb6 hb7 HV HN5 HW5 hc6 hr6 hn6 hov hovv hovb hovx
    go_wp2_with fail
    obtain ⟨w7, hw7⟩ : ∃ w7, w6.alloc (.cells #[.bool ng, .slice A6 n6 c6, .int .i64 (L + (u : Int))] 46) = w7 := ⟨_, rfl⟩
    have hgv : w6.heap.size < w7.heap.size := by rw [← hw7]; simp
    obtain ⟨gv, hgve⟩ : ∃ g, w6.heap.size = g := ⟨_, rfl⟩
    rw [hw7] at HN7 HN57 HW7 HV7 ⊢
    rw [hgve] at HV7 HO hgv ⊢
    have HGv := Lib.hid hgv
    clear hw7 hgv hgve
    refine (HS.out _).mono ?_
    rintro r w8 ⟨rfl, hw8⟩
    have h := hw8.symm
    subst h
    clear hw8
    go_wp2_with fail
    obtain ⟨wo1, wo2, uw, huw, houw, hub, huz⟩ := word_odd mm
    obtain ⟨ow, how⟩ : ∃ ow, mm / 2 ^ tz mm = ow := ⟨_, rfl⟩
    rw [how] at wo1 wo2 houw huz
    have how1 : ow % 2 = 1 := wo1 (fun e => HI.out.2.2.2.2.2.2.1 (wo2 e))
    have hobl : blen ow ≤ 3300 := Nat.le_trans (by rw [← how]; exact blen_mono (Nat.div_le_self _ _)) HI.out.2.2.2.2.2.2.2
    have hmk := make_walk ng (.slice A5 n5 c5) mm 0 w7 HN57.out (HT.out.below HW7.out) (by have := HI.out; omega) (fun _ => HI.out.2.2.2.2.2.2.1) (by omega) (by omega) (fun h => by have := tz_le h; omega) (fun h => by have := tz_le h; have := HI.out; omega)
    rw [huw, how] at hmk
    have HOw := Lib.hid (show ow % 2 = 1 ∧ ow * 2 ^ uw = mm ∧ blen ow ≤ 3300 ∧ uw ≤ 3300 from ⟨how1, houw, hobl, by have := HI.out; omega⟩)
    clear wo1 wo2 huw houw hub huz how how1 hobl
    refine hmk.mono ?_
    rintro r w9 ⟨s9, rfl, hn9, hb9⟩
    have hb10 := below_alloc' w9 (.cells #[.bool ng, s9, .int .i64 (uw : Int)] 46)
    have HN10 := Lib.hid (hn9.below hb10)
    have HN710 := Lib.hid ((HN7.out.below hb9).below hb10)
    have HV10 := Lib.hid ((HV7.out.below hb9).below hb10)
    have HW10 := Lib.hid (below_chain (below_chain HW7.out hb9) hb10)
    have HX10 : Hid (Box3 (w9.alloc (.cells #[.bool ng, s9, .int .i64 (uw : Int)] 46)) w9.heap.size (.bool ng) s9 (.int .i64 (uw : Int))) := Lib.hid ⟨by simp, by simp, by simp, by simp, by simp, by simp, by simp⟩
    have HGw := Lib.hid (show gv < w9.heap.size from Nat.lt_of_lt_of_le HGv.out hb9.size)
    obtain ⟨A9, c9, rfl, hc9, hr9⟩ := hn9
    obtain ⟨n9, hn9⟩ : ∃ n, (toL ow).length = n := ⟨_, rfl⟩
    rw [hn9] at HN10 HN710 HV10 HW10 HX10 ⊢
    clear hmk hb9 hb10 hc9 hr9 hn9 HN7 HN57 HV7 HW7 HGv hng2
    go_wp2_with fail
    obtain ⟨w10, hw10⟩ : ∃ w10, w9.alloc (.cells #[.bool ng, .slice A9 n9 c9, .int .i64 (uw : Int)] 46) = w10 := ⟨_, rfl⟩
    obtain ⟨gw, hgwe⟩ : ∃ g, w9.heap.size = g := ⟨_, rfl⟩
    rw [hw10] at HN10 HN710 HV10 HW10 HX10 ⊢
    rw [hgwe] at HX10 HGw ⊢
    clear hw10 hgwe
    refine (hPl.out _).mono ?_
    rintro r w11 ⟨rfl, hb11⟩
    have HN11 := Lib.hid (HN10.out.below hb11)
    have HN711 := Lib.hid (HN710.out.below hb11)
    have HV11 := Lib.hid (HV10.out.below hb11)
    have HW11 := Lib.hid (below_chain HW10.out hb11)
    have HX11 := Lib.hid (HX10.out.below hb11)
    have hls := HI.out.2.2.2.2.2.1
    have q1 : IntKind.i64.wrap (y - (l : Int)) = y - (l : Int) := by have := HI.out; rw [IntKind.wrap_i64]; omega
    have q2 : IntKind.i64.wrap (y - (l : Int) + 1) = ex := by have := HI.out; rw [IntKind.wrap_i64]; omega
    have q3 : IntKind.i64.wrap ((l : Int) - 1) = (l : Int) - 1 := by have := HI.out; rw [IntKind.wrap_i64]; omega
    have q4 : IntKind.i64.wrap ((l : Int) - 1 - y) = -ex := by have := HI.out; rw [IntKind.wrap_i64]; omega
    obtain ⟨n, hn⟩ : ∃ n : Nat, max ex (-ex) = (n : Int) := ⟨ex.natAbs, by omega⟩
    clear hb11 HN10 HN710 HV10 HW10 HX10
    go_wp2_with fail
    refine (hPl.out _).mono ?_
    rintro r w12 ⟨rfl, hb12⟩
    have HN12 := Lib.hid (HN11.out.below hb12)
    have HN712 := Lib.hid (HN711.out.below hb12)
    have HV12 := Lib.hid (HV11.out.below hb12)
    have HW12 := Lib.hid (below_chain HW11.out hb12)
    have HX12 := Lib.hid (HX11.out.below hb12)
    have HTn := Lib.hid (fun W h => lten_walk n (by have := HI.out; omega) W h)
    clear hb12 HN11 HN711 HV11 HW11 HX11
    go_wp2_with fail
    refine (HTn.out _ (HT.out.below HW12.out)).mono ?_
    rintro r w13 ⟨s13, o13, u13, rfl, hn13, ho13, hou13, hbo13, hub13, hb13⟩
    have hb14 := below_alloc' w13 (.cells #[.bool false, s13, .int .i64 (u13 : Int)] 46)
    have HP14 : Hid (Box3 (w13.alloc (.cells #[.bool false, s13, .int .i64 (u13 : Int)] 46)) w13.heap.size (.bool false) s13 (.int .i64 (u13 : Int))) := Lib.hid ⟨by simp, by simp, by simp, by simp, by simp, by simp, by simp⟩
    have HX := Lib.hid (show ExS w (w13.alloc (.cells #[.bool false, s13, .int .i64 (u13 : Int)] 46)) gv gw w13.heap.size ng (.slice A6 n6 c6) (.slice A9 n9 c9) s13 (L + (u : Int)) (uw : Int) (u13 : Int) ov ow o13 from
      ⟨(HV12.out.below hb13).below hb14, (HX12.out.below hb13).below hb14, HP14.out, (HN712.out.below hb13).below hb14, (HN12.out.below hb13).below hb14, hn13.below hb14, below_chain (below_chain HW12.out hb13) hb14⟩)
    have HO13 := Lib.hid (show o13 % 2 = 1 ∧ o13 * 2 ^ u13 = 10 ^ n ∧ blen o13 ≤ 8001 ∧ u13 ≤ 8001 from ⟨ho13, hou13, hbo13, hub13⟩)
    obtain ⟨A13, c13, rfl, hc13, hr13⟩ := hn13
    obtain ⟨n13, hn13⟩ : ∃ n, (toL o13).length = n := ⟨_, rfl⟩
    rw [hn13] at HX ⊢
    have hix := fun W => run_byte TB 0 (by have := HFst.out; omega) (by have := HFst.out; omega) W
    have hfst := HFst.out.1
    rw [HNg.out.1] at hfst
    obtain ⟨c0, hc0⟩ : ∃ c0, (((by8 TB 0).toNat : Nat) : Int) = c0 := ⟨_, rfl⟩
    rw [hc0] at hix hfst
    have hTp : 0 < TB.size := by have := HFst.out; omega
    have hfst2 : ((((TB[0]'hTp).toNat : Nat) : Int) == 45) = ng := by
      have e : by8 TB 0 = TB[0]'hTp := by
        unfold by8
        rw [List.getD_eq_getElem?_getD, List.getElem?_eq_getElem (by rw [Array.length_toList]; exact hTp)]; rfl
      rw [← e, hc0]; exact hfst
    have hng2 := HNg.out.1
    have HNn := Lib.hid hn
    clear hb13 hb14 hc13 hr13 hn13 ho13 hou13 hbo13 hub13 HP14 HV12 HX12 HN712 HN12 HW12 HTn hn
    go_wp2_with fail
    obtain ⟨w14, hw14⟩ : ∃ w14, w13.alloc (.cells #[.bool false, .slice A13 n13 c13, .int .i64 (u13 : Int)] 46) = w14 := ⟨_, rfl⟩
    obtain ⟨gp, hgp⟩ : ∃ g, w13.heap.size = g := ⟨_, rfl⟩
    rw [hw14] at HX ⊢
    rw [hgp] at HX ⊢
    clear hw14 hgp
    go_quiet ((go_at_call 20; exact Calls.quiet_of_same (HS.out _)))
    have HXq := Lib.hid (show ExS w (w14.drewN nq) gv gw gp ng (.slice A6 n6 c6) (.slice A9 n9 c9) (.slice A13 n13 c13) (L + (u : Int)) (uw : Int) (u13 : Int) ov ow o13 from HX.out.below (below_dn (Below.refl _ _) nq))
    obtain ⟨w15, hw15⟩ : ∃ w15, w14.drewN nq = w15 := ⟨_, rfl⟩
    rw [hw15] at HXq ⊢
    clear hw15 HX hix hc0 q1 q2 q4
    have hnn : (ng != ng) = false := by cases ng <;> rfl
    go_wp2_with fail
    refine (hPl.out _).mono ?_
    rintro r w16 ⟨rfl, hb16⟩
    have HX16 := Lib.hid (HXq.out.below hb16)
    clear hb16 HXq hPl hemp hfst hfst2 hng2 hnn
    by_cases hup : (l : Int) - 1 ≤ y
    · have hexs : 0 ≤ ex := by have := HI.out; omega
      obtain ⟨k0, k1, k2, _⟩ := HX16.out.wb
      obtain ⟨j0, j1, j2, _⟩ := HX16.out.pb
      have hex := exact_up (by rw [HLe.out.1]; omega) HEx.out (n := n) (by have := HNn.out; omega) HO.out.2.1 HO.out.1 HOw.out.2.1 HOw.out.1 HO13.out.2.1 HO13.out.1
      rw [HLe.out.1] at hex
      have HE := Lib.hid hex
      clear hex
      go_wp2_with fail
      refine (dmul_walk ng _ _ ow o13 (uw : Int) (u13 : Int) ((uw : Int) + (u13 : Int)) _ (by rw [if_neg (fun e => by have := HOw.out.1; rw [e] at this; omega)]) HX16.out.nw HX16.out.np (HT.out.below HX16.out.bl) (fun _ => HOw.out.1) (fun e => by have := HOw.out.1; rw [e] at this; omega) HO13.out.1 (by have := HOw.out; omega) (by have := HO13.out; omega) (by omega) (by have := HOw.out; omega) (by omega) (by have := HO13.out; omega)).mono ?_
      rintro r w17 ⟨s17, rfl, hn17, hb17⟩
      have HX17 := Lib.hid (HX16.out.below hb17)
      have HN17 := Lib.hid hn17
      obtain ⟨A17, c17, rfl, hc17, hr17⟩ := hn17
      obtain ⟨n17, hn17⟩ : ∃ n, (toL (ow * o13)).length = n := ⟨_, rfl⟩
      rw [hn17] at HN17 ⊢
      obtain ⟨z, hz⟩ : ∃ z : Int, (uw : Int) + (u13 : Int) = z := ⟨_, rfl⟩
      rw [hz] at HE ⊢
      clear hb17 hc17 hr17 hn17 k0 k1 k2 j0 j1 j2
      have HB18 := Lib.hid (HX17.out.wb.put (u0 := .bool ng) (u1 := .slice A17 n17 c17) (u2 := .int .i64 z))
      have HF18 := Lib.hid (HX17.out.v.far (g' := gw) (u0 := .bool ng) (u1 := .slice A17 n17 c17) (u2 := .int .i64 z) (by have := HGw.out; omega))
      have HN18 := Lib.hid (HN17.out.put3 HX17.out.wb (by simp) (by simp) (by simp) (.bool ng) (.slice A17 n17 c17) (.int .i64 z))
      have HM18 := Lib.hid (HX17.out.nv.put3 HX17.out.wb (by simp) (by simp) (by simp) (.bool ng) (.slice A17 n17 c17) (.int .i64 z))
      have HW18 := Lib.hid (put3_below (u0 := .bool ng) (u1 := .slice A17 n17 c17) (u2 := .int .i64 z) HX17.out.bl (show w.heap.size ≤ gw by have := HGw.out; have := HO.out; omega))
      obtain ⟨k0, k1, k2, k3, k4, k5, k6⟩ := HX17.out.wb
      obtain ⟨x0, x1, x2, _⟩ := HB18.out
      obtain ⟨y0, y1', y2', _⟩ := HF18.out
      unfold put3 at x0 x1 x2 y0 y1' y2'
      go_wp2_with fail
      have hput : ((w17.setCell ⟨gw, 0, none⟩ (.bool ng)).setCell ⟨gw, 1, none⟩ (.slice A17 n17 c17)).setCell ⟨gw, 2, none⟩ (.int .i64 z) = put3 w17 gw (.bool ng) (.slice A17 n17 c17) (.int .i64 z) := rfl
      rw [hput]
      obtain ⟨w18, hw18⟩ : ∃ w18, put3 w17 gw (.bool ng) (.slice A17 n17 c17) (.int .i64 z) = w18 := ⟨_, rfl⟩
      rw [hw18] at HN18 HM18 HW18 ⊢
      clear hput hw18 x0 x1 x2 y0 y1' y2' k0 k1 k2 k3 k4 k5 k6 HB18 HF18
      rw [HE.out.1] at HM18
      have e2 := HE.out.2
      rw [e2]
      refine (dcmp_walk ng _ _ (ow * o13) z w18 HM18.out HN18.out (by rw [Nat.mul_mod, HOw.out.1, HO13.out.1]) (Nat.le_trans (blen_mul _ _) (by have := HOw.out; have := HO13.out; omega)) (by have := HOw.out; have := HO13.out; omega) (by have := HOw.out; have := HO13.out; omega)).mono ?_
      rintro r w19 ⟨rfl, hb19⟩
      go_wp2
      go_ret
      exact ⟨rfl, below_chain HW18.out hb19⟩
    · have hexs : ex < 0 := by have := HI.out; omega
      obtain ⟨k0, k1, k2, _⟩ := HX16.out.v
      obtain ⟨j0, j1, j2, _⟩ := HX16.out.pb
      have hex := exact_down (by rw [HLe.out.1]; omega) HEx.out (n := n) (by have := HNn.out; omega) HO.out.2.1 HO.out.1 HOw.out.2.1 HOw.out.1 HO13.out.2.1 HO13.out.1
      rw [HLe.out.1] at hex
      have HE := Lib.hid hex
      clear hex
      go_wp2_with fail
      refine (dmul_walk ng _ _ ov o13 (L + (u : Int)) (u13 : Int) (L + (u : Int) + (u13 : Int)) _ (by rw [if_neg (fun e => by have := HO.out.1; rw [e] at this; omega)]) HX16.out.nv HX16.out.np (HT.out.below HX16.out.bl) (fun _ => HO.out.1) (fun e => by have := HO.out.1; rw [e] at this; omega) HO13.out.1 (by have := HO.out; omega) (by have := HO13.out; omega) (by omega) (by have := HO.out; omega) (by omega) (by have := HO13.out; omega)).mono ?_
      rintro r w17 ⟨s17, rfl, hn17, hb17⟩
      have HX17 := Lib.hid (HX16.out.below hb17)
      have HN17 := Lib.hid hn17
      obtain ⟨A17, c17, rfl, hc17, hr17⟩ := hn17
      obtain ⟨n17, hn17⟩ : ∃ n, (toL (ov * o13)).length = n := ⟨_, rfl⟩
      rw [hn17] at HN17 ⊢
      obtain ⟨z, hz⟩ : ∃ z : Int, L + (u : Int) + (u13 : Int) = z := ⟨_, rfl⟩
      rw [hz] at HE ⊢
      clear hb17 hc17 hr17 hn17 k0 k1 k2 j0 j1 j2
      have HB18 := Lib.hid (HX17.out.v.put (u0 := .bool ng) (u1 := .slice A17 n17 c17) (u2 := .int .i64 z))
      have HF18 := Lib.hid (HX17.out.wb.far (g' := gv) (u0 := .bool ng) (u1 := .slice A17 n17 c17) (u2 := .int .i64 z) (by have := HGw.out; omega))
      have HN18 := Lib.hid (HN17.out.put3 HX17.out.v (by simp) (by simp) (by simp) (.bool ng) (.slice A17 n17 c17) (.int .i64 z))
      have HM18 := Lib.hid (HX17.out.nw.put3 HX17.out.v (by simp) (by simp) (by simp) (.bool ng) (.slice A17 n17 c17) (.int .i64 z))
      have HW18 := Lib.hid (put3_below (u0 := .bool ng) (u1 := .slice A17 n17 c17) (u2 := .int .i64 z) HX17.out.bl (show w.heap.size ≤ gv by have := HGw.out; have := HO.out; omega))
      obtain ⟨k0, k1, k2, k3, k4, k5, k6⟩ := HX17.out.v
      obtain ⟨x0, x1, x2, _⟩ := HB18.out
      obtain ⟨y0, y1', y2', _⟩ := HF18.out
      unfold put3 at x0 x1 x2 y0 y1' y2'
      go_wp2_with fail
      have hput : ((w17.setCell ⟨gv, 0, none⟩ (.bool ng)).setCell ⟨gv, 1, none⟩ (.slice A17 n17 c17)).setCell ⟨gv, 2, none⟩ (.int .i64 z) = put3 w17 gv (.bool ng) (.slice A17 n17 c17) (.int .i64 z) := rfl
      rw [hput]
      obtain ⟨w18, hw18⟩ : ∃ w18, put3 w17 gv (.bool ng) (.slice A17 n17 c17) (.int .i64 z) = w18 := ⟨_, rfl⟩
      rw [hw18] at HN18 HM18 HW18 ⊢
      clear hput hw18 x0 x1 x2 y0 y1' y2' k0 k1 k2 k3 k4 k5 k6 HB18 HF18
      rw [HE.out.1] at HM18
      have e2 := HE.out.2
      rw [e2]
      refine (dcmp_walk ng _ _ (ov * o13) z w18 HN18.out HM18.out (by rw [Nat.mul_mod, HO.out.1, HO13.out.1]) (Nat.le_trans (blen_mul _ _) (by have := HO.out; have := HO13.out; omega)) (by have := HO.out; have := HO13.out; omega) (by have := HO.out; have := HO13.out; omega)).mono ?_
      rintro r w19 ⟨rfl, hb19⟩
      go_wp2
      go_ret
      exact ⟨rfl, below_chain HW18.out hb19⟩
end Go.Proofs.YtmfjimmodaofdaaGreatDoor
