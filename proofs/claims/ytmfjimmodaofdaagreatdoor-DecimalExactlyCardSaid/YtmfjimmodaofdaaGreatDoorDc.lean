/- Walks of num: Sign; of dyadic: top, size, Cmp, of two equal numbers. -/
import Derived.Test.YtmfjimmodaofdaaGreatDoorLw
namespace Go.Proofs.YtmfjimmodaofdaaGreatDoor
open Go.RowKit

theorem bits_at (v : Value) (a : Nat) (hs : (toL a).length ≤ 100000) (W : World) (h : NatAt W v a) : Calls Tryz.prog 55 #[v] W fun e w' => e = .returned (.int .i64 (blen a : Int)) ∧ w' = W := by
  obtain ⟨A, c, rfl, hc, hr⟩ := h
  have hbits := bits_walk A (toL a).length c (toL a) W rfl hr (Wd_toL a) hc hs
  rw [vl_toL] at hbits
  refine hbits.mono ?_
  rintro e w' ⟨rfl, rfl⟩
  exact ⟨rfl, rfl⟩
set_option maxRecDepth 100000 in
theorem nsign_walk (neg : Bool) (v : Value) (a : Nat) (w : World) (h : NatAt w v a) (ha : a ≠ 0) (hs : (toL a).length ≤ 100000) :
    Calls Tryz.prog 76 #[.agg #[.bool neg, v]] w fun e w' => e = .returned (.int .i64 (if neg then -1 else 1)) ∧ Below w.heap.size w w' := by
  have hb := below_alloc' w (.cells #[.bool neg, v] 44)
  have HB := Lib.hid (bits_at v a hs _ (h.below hb))
  have HW := Lib.hid hb
  obtain ⟨A, c, rfl, hc, hr⟩ := h
  have hbp := blen_pos ha
  obtain ⟨bl, hbl⟩ : ∃ bl, blen a = bl := ⟨_, rfl⟩
  rw [hbl] at HB hbp
  have hz : ((bl : Int) == 0) = false := by rw [beq_eq_false_iff_ne]; omega
  obtain ⟨n, hn⟩ : ∃ n, (toL a).length = n := ⟨_, rfl⟩
  rw [hn] at HB HW ⊢
  clear hc hr hb hn hbl hbp
  cases neg
  · go_enter Tryz.func76, Tryz.ntmps76
    go_wp2_with fail
    refine HB.out.mono ?_
    rintro e w1 ⟨rfl, hw1⟩
    have h1 := hw1.symm
    subst h1
    clear hw1
    go_wp2
    go_ret
    exact ⟨rfl, HW.out⟩
  · go_enter Tryz.func76, Tryz.ntmps76
    go_wp2_with fail
    refine HB.out.mono ?_
    rintro e w1 ⟨rfl, hw1⟩
    have h1 := hw1.symm
    subst h1
    clear hw1
    go_wp2
    go_ret
    exact ⟨rfl, HW.out⟩
set_option maxRecDepth 100000 in
theorem dtop_walk (neg : Bool) (v : Value) (a : Nat) (x : Int) (w : World) (h : NatAt w v a) (hs : blen a ≤ 524288) (x1 : -2000000 ≤ x) (x2 : x ≤ 2000000) :
    Calls Tryz.prog 129 #[.agg #[.bool neg, v, .int .i64 x]] w fun e w' => e = .returned (.int .i64 (x + (blen a : Int) - 1)) ∧ Below w.heap.size w w' := by
  have hb := below_alloc' w (.cells #[.bool neg, v, .int .i64 x] 46)
  have HB := Lib.hid (fun q => bits_at v a (by rw [toL_length]; omega) _ ((h.below hb).below (below_dn (Below.refl _ _) q)))
  have HW := Lib.hid hb
  obtain ⟨A, c, rfl, hc, hr⟩ := h
  obtain ⟨bl, hbl⟩ : ∃ bl, blen a = bl := ⟨_, rfl⟩
  rw [hbl] at HB hs ⊢
  have p1 : IntKind.i64.wrap (x + (bl : Int)) = x + (bl : Int) := by rw [IntKind.wrap_i64]; omega
  have p2 : IntKind.i64.wrap (x + (bl : Int) - 1) = x + (bl : Int) - 1 := by rw [IntKind.wrap_i64]; omega
  obtain ⟨n, hn⟩ : ∃ n, (toL a).length = n := ⟨_, rfl⟩
  rw [hn] at HB HW ⊢
  have c1 : (w.alloc (.cells #[.bool neg, .slice A n c, .int .i64 x] 46)).cell? ⟨w.heap.size, 1, none⟩ = some (.slice A n c) := by simp
  have c2 : (w.alloc (.cells #[.bool neg, .slice A n c, .int .i64 x] 46)).cell? ⟨w.heap.size, 2, none⟩ = some (.int .i64 x) := by simp
  clear hc hr hb hn hbl
  go_enter Tryz.func129, Tryz.ntmps129
  go_wp2_with fail
  obtain ⟨w1, hw1⟩ : ∃ w1, w.alloc (.cells #[.bool neg, .slice A n c, .int .i64 x] 46) = w1 := ⟨_, rfl⟩
  rw [hw1] at HB HW c1 c2 ⊢
  clear hw1
  go_quiet ((go_at_call 55; exact Calls.quiet_of_same (HB.out _)))
  go_wp2
  go_ret
  exact ⟨rfl, below_dn HW.out _⟩

/-- Two equal numbers in memory. -/
structure CpS (w w' : World) (neg : Bool) (vx vy : Value) (x : Int) (a : Nat) : Prop where
  bx : Box3 w' w.heap.size (.bool neg) vx (.int .i64 x)
  by_ : Box3 w' (w.heap.size + 1) (.bool neg) vy (.int .i64 x)
  da : NatAt w' vx a
  db : NatAt w' vy a
  bl : Below w.heap.size w w'
theorem CpS.below {w w1 w2 : World} {neg : Bool} {vx vy : Value} {x : Int} {a : Nat} (h : CpS w w1 neg vx vy x a) (hb : Below w1.heap.size w1 w2) : CpS w w2 neg vx vy x a :=
  ⟨h.bx.below hb, h.by_.below hb, h.da.below hb, h.db.below hb, below_chain h.bl hb⟩

set_option maxRecDepth 100000 in
set_option maxHeartbeats 1000000 in
theorem dsize_walk (neg : Bool) (v u : Value) (a : Nat) (x : Int) (w : World) (h : NatAt w v a) (g : NatAt w u a) (hs : blen a ≤ 400000) (x1 : -1000000 ≤ x) (x2 : x ≤ 1000000) :
    Calls Tryz.prog 77 #[.agg #[.bool neg, v, .int .i64 x], .agg #[.bool neg, u, .int .i64 x]] w fun e w' => e = .returned (.int .i64 0) ∧ Below w.heap.size w w' := by
  have H := Lib.hid h
  have G := Lib.hid g
  have HTp := Lib.hid (fun (s : Value) W (h : NatAt W s a) => dtop_walk neg s a x W h (by omega) (by omega) (by omega))
  obtain ⟨t, htt⟩ : ∃ t : Int, x + (blen a : Int) - 1 = t := ⟨_, rfl⟩
  rw [htt] at HTp
  obtain ⟨A, ca, rfl, hca, hra⟩ := h
  obtain ⟨B, cb, rfl, hcb, hrb⟩ := g
  obtain ⟨la, hla⟩ : ∃ la, (toL a).length = la := ⟨_, rfl⟩
  rw [hla] at H G ⊢
  have W0 := below_chain (below_alloc' w (.cells #[.bool neg, .slice A la ca, .int .i64 x] 46)) (below_alloc' _ (.cells #[.bool neg, .slice B la cb, .int .i64 x] 46))
  have K0 : CpS w ((w.alloc (.cells #[.bool neg, .slice A la ca, .int .i64 x] 46)).alloc (.cells #[.bool neg, .slice B la cb, .int .i64 x] 46)) neg (.slice A la ca) (.slice B la cb) x a :=
    ⟨⟨by simp [go_sem], by simp [go_sem], by simp [go_sem], by simp [go_sem], by simp [go_sem], by simp [go_sem], by simp [go_sem]⟩, ⟨by simp [go_sem], by simp [go_sem], by simp [go_sem], by simp [go_sem], by simp [go_sem], by simp [go_sem], by simp [go_sem]⟩, H.out.below W0, G.out.below W0, W0⟩
  have HK0 := Lib.hid K0
  have HM := Lib.hid hs
  have p0 : IntKind.i64.wrap (x - x) = 0 := by rw [Int.sub_self]; decide
  have pm : min x x = x := by omega
  clear hra hrb hca hcb hla hs W0 K0 H G htt
  go_enter Tryz.func77, Tryz.ntmps77
  go_wp2_with fail
  obtain ⟨w1, hw1⟩ : ∃ w1, (w.alloc (.cells #[.bool neg, .slice A la ca, .int .i64 x] 46)).alloc (.cells #[.bool neg, .slice B la cb, .int .i64 x] 46) = w1 := ⟨_, rfl⟩
  rw [hw1] at HK0 ⊢
  clear hw1
  have HKd := Lib.hid (show CpS w w1.drew neg (.slice A la ca) (.slice B la cb) x a from HK0.out.below (below_draw' w1))
  obtain ⟨k0, k1, k2, _⟩ := HKd.out.bx
  obtain ⟨j0, j1, j2, _⟩ := HKd.out.by_
  go_region_held3 (fun w' => w'.cell? ⟨w.heap.size, 0, none⟩ = some (.bool neg) ∧ w'.cell? ⟨w.heap.size, 1, none⟩ = some (.slice A la ca) ∧ w'.cell? ⟨w.heap.size, 2, none⟩ = some (.int .i64 x) ∧ w'.cell? ⟨w.heap.size + 1, 0, none⟩ = some (.bool neg) ∧ w'.cell? ⟨w.heap.size + 1, 1, none⟩ = some (.slice B la cb) ∧ w'.cell? ⟨w.heap.size + 1, 2, none⟩ = some (.int .i64 x) ∧ Hid (CpS w w' neg (.slice A la ca) (.slice B la cb) x a))
    (first | exact ⟨k0, k1, k2, j0, j1, j2, HKd⟩ | (go_split_ands; (have K5 : CpS w w8 neg (.slice A la ca) (.slice B la cb) x a := CpS.below (Hid.out (by assumption)) hb8); exact ⟨K5.bx.1, K5.bx.2.1, K5.bx.2.2.1, K5.by_.1, K5.by_.2.1, K5.by_.2.2.1, Lib.hid K5⟩))
    (first | (go_split_ands; rename_i hk; go_at_call 129; refine (HTp.out _ _ (by first | exact hk.out.da | exact hk.out.db)).mono ?_; rintro e w8 ⟨rfl, hb8⟩))
  all_goals
    have HK8 : Hid (CpS w w8 neg (.slice A la ca) (.slice B la cb) x a) := Lib.hid (by go_split_ands; exact CpS.below (Hid.out (by assumption)) hb8)
    clear hb8 HKd HK0 HTp
    clear k0 k1 k2 j0 j1 j2
    obtain ⟨k0, k1, k2, _⟩ := HK8.out.bx
    obtain ⟨j0, j1, j2, _⟩ := HK8.out.by_
    go_wp2_with fail
    refine (shl_walk _ a 0 w8 HK8.out.da (by omega) (by have := HM.out; omega)).mono ?_
    rintro e w9 ⟨s9, rfl, hn9, hb9⟩
    rw [show (0 : Int).toNat = 0 from rfl, Nat.pow_zero, Nat.mul_one] at hn9
    have HN9 := Lib.hid hn9
    have HK9 := Lib.hid (HK8.out.below hb9)
    obtain ⟨A9, c9, rfl, hc9, hr9⟩ := hn9
    obtain ⟨n9, hn9⟩ : ∃ n, (toL a).length = n := ⟨_, rfl⟩
    rw [hn9] at HN9 ⊢
    clear k0 k1 k2 j0 j1 j2 hb9 hc9 hr9 hn9 HK8
    obtain ⟨k0, k1, k2, _⟩ := HK9.out.bx
    obtain ⟨j0, j1, j2, _⟩ := HK9.out.by_
    go_wp2_with fail
    refine (shl_walk _ a 0 w9 HK9.out.db (by omega) (by have := HM.out; omega)).mono ?_
    rintro e w10 ⟨s10, rfl, hn10, hb10⟩
    rw [show (0 : Int).toNat = 0 from rfl, Nat.pow_zero, Nat.mul_one] at hn10
    have HN10 := Lib.hid hn10
    have HN910 := Lib.hid (HN9.out.below hb10)
    have HK10 := Lib.hid (HK9.out.below hb10)
    obtain ⟨A10, c10, rfl, hc10, hr10⟩ := hn10
    obtain ⟨n10, hn10⟩ : ∃ n, (toL a).length = n := ⟨_, rfl⟩
    rw [hn10] at HN10 ⊢
    clear k0 k1 k2 j0 j1 j2 hb10 hc10 hr10 hn10 HK9 HN9
    go_wp2_with fail
    refine (cmp_walk _ _ a a w10 HN910.out HN10.out (by have := HM.out; rw [toL_length]; omega) (by have := HM.out; rw [toL_length]; omega)).mono ?_
    rintro e w11 ⟨rfl, q, rfl⟩
    rw [cmpI_eq rfl]
    go_wp2
    go_ret
    exact ⟨rfl, below_dn HK10.out.bl _⟩

set_option maxRecDepth 100000 in
set_option maxHeartbeats 1000000 in
/-- Cmp of two equal numbers. -/
theorem dcmp_walk (neg : Bool) (v u : Value) (a : Nat) (x : Int) (w : World) (h : NatAt w v a) (g : NatAt w u a) (ha : a % 2 = 1) (hs : blen a ≤ 400000) (x1 : -1000000 ≤ x) (x2 : x ≤ 1000000) :
    Calls Tryz.prog 35 #[.agg #[.bool neg, v, .int .i64 x], .agg #[.bool neg, u, .int .i64 x]] w fun e w' => e = .returned (.tuple #[.int .i64 0, .int .i64 0]) ∧ Below w.heap.size w w' := by
  have ha0 : a ≠ 0 := by intro e; rw [e] at ha; omega
  have H := Lib.hid h
  have G := Lib.hid g
  have HSg := Lib.hid (fun (s : Value) W (h : NatAt W s a) => nsign_walk neg s a W h ha0 (by rw [toL_length]; omega))
  have HFm := Lib.hid (fun (s : Value) W (h : NatAt W s a) => dform_walk neg s a x W h (by omega) (fun _ => ha0) (by omega) (by omega) (fun _ => ha) (fun e => absurd e ha0))
  have HSz := Lib.hid (fun (s t : Value) W (h : NatAt W s a) (g : NatAt W t a) => dsize_walk neg s t a x W h g hs x1 x2)
  obtain ⟨A, ca, rfl, hca, hra⟩ := h
  obtain ⟨B, cb, rfl, hcb, hrb⟩ := g
  obtain ⟨la, hla⟩ : ∃ la, (toL a).length = la := ⟨_, rfl⟩
  rw [hla] at H G ⊢
  have W0 := below_chain (below_alloc' w (.cells #[.bool neg, .slice A la ca, .int .i64 x] 46)) (below_alloc' _ (.cells #[.bool neg, .slice B la cb, .int .i64 x] 46))
  have K0 : CpS w ((w.alloc (.cells #[.bool neg, .slice A la ca, .int .i64 x] 46)).alloc (.cells #[.bool neg, .slice B la cb, .int .i64 x] 46)) neg (.slice A la ca) (.slice B la cb) x a :=
    ⟨⟨by simp [go_sem], by simp [go_sem], by simp [go_sem], by simp [go_sem], by simp [go_sem], by simp [go_sem], by simp [go_sem]⟩, ⟨by simp [go_sem], by simp [go_sem], by simp [go_sem], by simp [go_sem], by simp [go_sem], by simp [go_sem], by simp [go_sem]⟩, H.out.below W0, G.out.below W0, W0⟩
  have HK0 := Lib.hid K0
  obtain ⟨s, hsd⟩ : ∃ s : Int, (if neg then -1 else 1) = s := ⟨_, rfl⟩
  rw [hsd] at HSg
  have hs0 : (s == 0) = false := by rw [← hsd, beq_eq_false_iff_ne]; split <;> omega
  have hmul : IntKind.i64.wrap (s * 0) = 0 := by rw [Int.mul_zero]; decide
  have hss : ¬ s < s := by omega
  clear hra hrb hca hcb hla hs W0 K0 H G hsd ha ha0
  go_enter Tryz.func35, Tryz.ntmps35
  go_wp2_with fail
  obtain ⟨w1, hw1⟩ : ∃ w1, (w.alloc (.cells #[.bool neg, .slice A la ca, .int .i64 x] 46)).alloc (.cells #[.bool neg, .slice B la cb, .int .i64 x] 46) = w1 := ⟨_, rfl⟩
  rw [hw1] at HK0 ⊢
  clear hw1
  refine (HFm.out _ w1 HK0.out.da).mono ?_
  rintro e w2 ⟨rfl, hb2⟩
  have HK2 := Lib.hid (HK0.out.below hb2)
  obtain ⟨j0, j1, j2, _⟩ := HK2.out.by_
  clear hb2 HK0
  go_wp2_with fail
  refine (HFm.out _ w2 HK2.out.db).mono ?_
  rintro e w3 ⟨rfl, hb3⟩
  have HK3 := Lib.hid (HK2.out.below hb3)
  clear hb3 HK2 j0 j1 j2 HFm
  go_wp2_with fail
  have HKd := Lib.hid (show CpS w w3.drew neg (.slice A la ca) (.slice B la cb) x a from HK3.out.below (below_draw' w3))
  obtain ⟨k0, k1, k2, _⟩ := HKd.out.bx
  obtain ⟨j0, j1, j2, _⟩ := HKd.out.by_
  go_region_held3 (fun w' => w'.cell? ⟨w.heap.size, 0, none⟩ = some (.bool neg) ∧ w'.cell? ⟨w.heap.size, 1, none⟩ = some (.slice A la ca) ∧ w'.cell? ⟨w.heap.size + 1, 0, none⟩ = some (.bool neg) ∧ w'.cell? ⟨w.heap.size + 1, 1, none⟩ = some (.slice B la cb) ∧ Hid (CpS w w' neg (.slice A la ca) (.slice B la cb) x a))
    (first | exact ⟨k0, k1, j0, j1, HKd⟩ | (go_split_ands; (have K5 : CpS w w8 neg (.slice A la ca) (.slice B la cb) x a := CpS.below (Hid.out (by assumption)) hb8); exact ⟨K5.bx.1, K5.bx.2.1, K5.by_.1, K5.by_.2.1, Lib.hid K5⟩))
    (first | (go_split_ands; rename_i hk; go_at_call 76; refine (HSg.out _ _ (by first | exact hk.out.da | exact hk.out.db)).mono ?_; rintro e w8 ⟨rfl, hb8⟩))
  all_goals
    have HK8 : Hid (CpS w w8 neg (.slice A la ca) (.slice B la cb) x a) := Lib.hid (by go_split_ands; exact CpS.below (Hid.out (by assumption)) hb8)
    clear hb8 HKd HK3 HSg
    clear k0 k1 k2 j0 j1 j2
    obtain ⟨k0, k1, k2, _⟩ := HK8.out.bx
    obtain ⟨j0, j1, j2, _⟩ := HK8.out.by_
    go_wp2_with fail
    refine (HSz.out _ _ w8 HK8.out.da HK8.out.db).mono ?_
    rintro e w9 ⟨rfl, hb9⟩
    go_wp2
    go_ret2
    exact ⟨rfl, below_chain HK8.out.bl hb9⟩
end Go.Proofs.YtmfjimmodaofdaaGreatDoor
