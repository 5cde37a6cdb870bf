/- Walks of num: (way).div to nearest, NearDiv, of numbers from nought on. -/
import Derived.Test.YtmfjimmodaofdaaGreatDoorGj
import Derived.Test.YtmfjimmodaofdaaGreatDoorSz
import Derived.Deep.RegionHeld3
namespace Go.Proofs.YtmfjimmodaofdaaGreatDoor
open Go.RowKit

/-- a / b to nearest, ties to even. -/
def rnd (a b : Nat) : Nat := a / b + if moreN (tb (a / b) 0) (cmpI (a % b) (b - a % b)) then 1 else 0
/-- What stands in memory while a quotient is rounded. -/
structure DvS (w w' : World) (vx vy : Value) (a b : Nat) : Prop where
  x0 : w'.cell? ⟨w.heap.size, 0, none⟩ = some (.bool false)
  x1 : w'.cell? ⟨w.heap.size, 1, none⟩ = some vx
  y0 : w'.cell? ⟨w.heap.size + 1, 0, none⟩ = some (.bool false)
  y1 : w'.cell? ⟨w.heap.size + 1, 1, none⟩ = some vy
  r : Box2 w' (w.heap.size + 1 + 1) (.bool false) (.slice none 0 0)
  da : NatAt w' vx a
  db : NatAt w' vy b
  bl : Below w.heap.size w w'
theorem DvS.below {w w1 w2 : World} {vx vy : Value} {a b : Nat} (h : DvS w w1 vx vy a b) (hb : Below w1.heap.size w1 w2) : DvS w w2 vx vy a b :=
  ⟨cell_kept hb h.x0, cell_kept hb h.x1, cell_kept hb h.y0, cell_kept hb h.y1, h.r.below hb, h.da.below hb, h.db.below hb, below_chain h.bl hb⟩

/-- Two cells that may be written and hold no word. -/
def AnyR (W : World) (g : Nat) : Prop := (∃ v0 v1, W.cell? ⟨g, 0, none⟩ = some v0 ∧ W.cell? ⟨g, 1, none⟩ = some v1 ∧ (∀ x, v0 ≠ .int .u64 x) ∧ (∀ x, v1 ≠ .int .u64 x)) ∧ W.frozen? ⟨g, 0, none⟩ = false ∧ W.frozen? ⟨g, 1, none⟩ = false ∧ g < W.heap.size
theorem Box2.anyR {W : World} {g : Nat} {A : Option Addr} {b : Bool} {n c : Nat} (h : Box2 W g (.bool b) (.slice A n c)) : AnyR W g := ⟨⟨_, _, h.1, h.2.1, by simp, by simp⟩, h.2.2⟩
theorem AnyR.below {W w1 : World} {g : Nat} (h : AnyR W g) (hb : Below W.heap.size W w1) : AnyR w1 g := by
  obtain ⟨⟨v0, v1, h0, h1, n0, n1⟩, f0, f1, hl⟩ := h
  exact ⟨⟨v0, v1, cell_kept hb h0, cell_kept hb h1, n0, n1⟩, (hb.frozen (p := ⟨g, 0, none⟩) hl).trans f0, (hb.frozen (p := ⟨g, 1, none⟩) hl).trans f1, Nat.lt_of_lt_of_le hl hb.size⟩
/-- The world behind a struct of a sign and a slice that was stored. -/
def put2 (W : World) (g : Nat) (u0 u1 : Value) : World := (W.setCell ⟨g, 0, none⟩ u0).setCell ⟨g, 1, none⟩ u1
theorem AnyR.put {W : World} {g : Nat} (h : AnyR W g) {A : Option Addr} {b : Bool} {n c : Nat} : AnyR (put2 W g (.bool b) (.slice A n c)) g ∧ (put2 W g (.bool b) (.slice A n c)).cell? ⟨g, 0, none⟩ = some (.bool b) ∧ (put2 W g (.bool b) (.slice A n c)).cell? ⟨g, 1, none⟩ = some (.slice A n c) := by
  obtain ⟨⟨v0, v1, h0, h1, n0, n1⟩, f0, f1, hl⟩ := h
  have e0 : (put2 W g (.bool b) (.slice A n c)).cell? ⟨g, 0, none⟩ = some (.bool b) := by
    unfold put2; rw [cell_other (by simp)]; exact World.cell?_setCell_same' _ _ _ (by rw [h0]; rfl)
  have e1 : (put2 W g (.bool b) (.slice A n c)).cell? ⟨g, 1, none⟩ = some (.slice A n c) := World.cell?_setCell_same' _ _ _ (by rw [cell_other (by simp), h1]; rfl)
  exact ⟨⟨⟨_, _, e0, e1, by simp, by simp⟩, by unfold put2; simpa using f0, by unfold put2; simpa using f1, by unfold put2; simpa using hl⟩, e0, e1⟩
theorem NatAt.put2 {W : World} {v : Value} {a g : Nat} (h : NatAt W v a) (hr : AnyR W g) (u0 u1 : Value) : NatAt (put2 W g u0 u1) v a := by
  obtain ⟨⟨v0, v1, h0, h1, n0, n1⟩, _⟩ := hr
  exact (h.write h0 n0 u0).write (by rw [cell_other (by simp)]; exact h1) n1 u1
theorem put2_far {W : World} {g g' j : Nat} {u0 u1 v : Value} (hne : g ≠ g') (h : W.cell? ⟨g', j, none⟩ = some v) : (put2 W g u0 u1).cell? ⟨g', j, none⟩ = some v := by
  unfold put2
  rw [cell_other (fun e => hne (congrArg Addr.block e)), cell_other (fun e => hne (congrArg Addr.block e))]; exact h
theorem put2_below {B : Nat} {w W : World} {g : Nat} {u0 u1 : Value} (h : Below B w W) (hg : B ≤ g) : Below B w (put2 W g u0 u1) := (h.setCell (p := ⟨g, 0, none⟩) hg _).setCell (p := ⟨g, 1, none⟩) hg _
structure DvR (w w' : World) (vq vr vl : Value) (q r l : Nat) : Prop where
  x0 : w'.cell? ⟨w.heap.size, 0, none⟩ = some (.bool false)
  y0 : w'.cell? ⟨w.heap.size + 1, 0, none⟩ = some (.bool false)
  rr : AnyR w' (w.heap.size + 1 + 1)
  dq : NatAt w' vq q
  dr : NatAt w' vr r
  dl : NatAt w' vl l
  bl : Below w.heap.size w w'
theorem DvR.below {w w1 w2 : World} {vq vr vl : Value} {q r l : Nat} (h : DvR w w1 vq vr vl q r l) (hb : Below w1.heap.size w1 w2) : DvR w w2 vq vr vl q r l :=
  ⟨cell_kept hb h.x0, cell_kept hb h.y0, h.rr.below hb, h.dq.below hb, h.dr.below hb, h.dl.below hb, below_chain h.bl hb⟩
theorem DvR.put {w w1 : World} {vq vr vl : Value} {q r l : Nat} (h : DvR w w1 vq vr vl q r l) {A : Option Addr} {b : Bool} {n c : Nat} : DvR w (put2 w1 (w.heap.size + 1 + 1) (.bool b) (.slice A n c)) vq vr vl q r l :=
  ⟨put2_far (by omega) h.x0, put2_far (by omega) h.y0, h.rr.put.1, h.dq.put2 h.rr _ _, h.dr.put2 h.rr _ _, h.dl.put2 h.rr _ _, put2_below h.bl (by omega)⟩

set_option maxRecDepth 100000 in
set_option maxHeartbeats 1000000 in
theorem wdiv_walk (s t : Value) (a b : Nat) (w : World) (h : NatAt w s a) (g : NatAt w t b) (hb0 : b ≠ 0) (hs1 : blen a ≤ 500000) (hs2 : (toL b).length ≤ 8192) :
    Calls Tryz.prog 122 #[.int .i64 2, .agg #[.bool false, s], .agg #[.bool false, t]] w fun e w' => ∃ s', e = .returned (.tuple #[.agg #[.bool false, s'], .int .i64 0]) ∧ NatAt w' s' (rnd a b) ∧ Below w.heap.size w w' := by
  have hs1' : (toL a).length ≤ 8192 := by rw [toL_length]; omega
  have hq1 : blen (a / b + 1) ≤ 524288 := by
    have h1 : a / b + 1 ≤ a + 1 := Nat.succ_le_succ (Nat.div_le_self _ _)
    have h2 : blen (a + 1) ≤ blen a + 1 := by
      have := blen_hi a
      exact blen_le.2 (by rw [Nat.pow_succ]; have := Nat.two_pow_pos (blen a); omega)
    have := blen_mono h1
    omega
  have hlb0 : (toL b).length ≠ 0 := fun e => hb0 ((toL_length_zero b).1 e)
  have hml := Nat.mod_lt a (Nat.pos_of_ne_zero hb0)
  have hrl : (toL (a % b)).length ≤ 8192 := by
    have h1 := (toL_length_le b _).1 (Nat.le_refl _)
    exact Nat.le_trans ((toL_length_le _ _).2 (Nat.lt_trans hml h1)) hs2
  have hll : (toL (b - a % b)).length ≤ 8192 := by
    have h1 := (toL_length_le b _).1 (Nat.le_refl _)
    exact Nat.le_trans ((toL_length_le _ _).2 (Nat.lt_of_le_of_lt (Nat.sub_le _ _) h1)) hs2
  have HM := Lib.hid (show (toL a).length ≤ 8192 ∧ (toL b).length ≤ 8192 ∧ b ≠ 0 ∧ a % b ≤ b ∧ (toL (a % b)).length ≤ 8192 ∧ (toL (b - a % b)).length ≤ 8192 ∧ blen (a / b + 1) ≤ 524288 from ⟨hs1', hs2, hb0, Nat.le_of_lt hml, hrl, hll, hq1⟩)
  have H := Lib.hid h
  have G := Lib.hid g
  obtain ⟨A, ca, rfl, hca, hra⟩ := h
  obtain ⟨B, cb, rfl, hcb, hrb⟩ := g
  obtain ⟨la, hla⟩ : ∃ la, (toL a).length = la := ⟨_, rfl⟩
  obtain ⟨lb, hlb⟩ : ∃ lb, (toL b).length = lb := ⟨_, rfl⟩
  rw [hla] at H ⊢
  rw [hlb] at G hlb0 ⊢
  have hl2 : ((lb : Int) == 0) = false := by rw [beq_eq_false_iff_ne]; omega
  have W0 := below_chain (below_chain (below_alloc' w (.cells #[.bool false, .slice A la ca] 44)) (below_alloc' _ (.cells #[.bool false, .slice B lb cb] 44))) (below_alloc' _ (.cells #[.bool false, .slice none 0 0] 44))
  have K0 : DvS w (((w.alloc (.cells #[.bool false, .slice A la ca] 44)).alloc (.cells #[.bool false, .slice B lb cb] 44)).alloc (.cells #[.bool false, .slice none 0 0] 44)) (.slice A la ca) (.slice B lb cb) a b :=
    ⟨by simp [go_sem], by simp [go_sem], by simp [go_sem], by simp [go_sem], ⟨by simp [go_sem], by simp [go_sem], by simp [go_sem], by simp [go_sem], by simp [go_sem]⟩, H.out.below W0, G.out.below W0, W0⟩
  have HK0 := Lib.hid K0
  clear hra hrb hca hcb hla hlb hs1 hs1' hs2 hb0 hq1 hml hrl hll W0 K0
  go_enter Tryz.func122, Tryz.ntmps122
  go_wp2_with fail
  obtain ⟨w1, hw1⟩ : ∃ w1, (((w.alloc (.cells #[.bool false, .slice A la ca] 44)).alloc (.cells #[.bool false, .slice B lb cb] 44)).alloc (.cells #[.bool false, .slice none 0 0] 44)) = w1 := ⟨_, rfl⟩
  rw [hw1] at HK0 ⊢
  clear hw1
  refine (nform_walk false _ a w1 HK0.out.da HM.out.1 (by simp)).mono ?_
  rintro e w2 ⟨rfl, hb2⟩
  have HK2 := Lib.hid (HK0.out.below hb2)
  clear hb2 HK0
  have y0 := HK2.out.y0
  have y1 := HK2.out.y1
  go_wp2_with fail
  refine (nform_walk false _ b w2 HK2.out.db HM.out.2.1 (by simp)).mono ?_
  rintro e w3 ⟨rfl, hb3⟩
  have HK3 := Lib.hid (HK2.out.below hb3)
  clear hb3 HK2 y0 y1
  have x1 := HK3.out.x1
  have y1 := HK3.out.y1
  go_wp2_with fail
  refine (quorem_walk _ _ a b w3 HK3.out.da HK3.out.db HM.out.2.2.1 HM.out.1 HM.out.2.1).mono ?_
  rintro e w4 ⟨vq, vr, rfl, hq, hr, hb4⟩
  have HQ4 := Lib.hid hq
  have HR4 := Lib.hid hr
  have HK4 := Lib.hid (HK3.out.below hb4)
  obtain ⟨Aq, cq, rfl, hcq, hrq⟩ := hq
  obtain ⟨Ar, cr, rfl, hcr, hrr⟩ := hr
  clear hb4 HK3 x1 y1 hcq hrq hcr hrr
  obtain ⟨q, hq⟩ : ∃ q, a / b = q := ⟨_, rfl⟩
  obtain ⟨r, hr⟩ : ∃ r, a % b = r := ⟨_, rfl⟩
  obtain ⟨l, hl⟩ : ∃ l, b - r = l := ⟨_, rfl⟩
  have HF := Lib.hid (show rnd a b = q + if moreN (tb q 0) (cmpI r l) then 1 else 0 by unfold rnd; rw [hq, hr, hl])
  rw [hq, hr, hl] at HM
  rw [hq] at HQ4 ⊢
  rw [hr] at HR4 ⊢
  have HL := Lib.hid hl
  clear hq hr hl
  have y1 := HK4.out.y1
  go_wp2_with fail
  refine (sub_walk _ _ b r w4 HK4.out.db HR4.out HM.out.2.2.2.1 HM.out.2.1).mono ?_
  rintro e w5 ⟨vl, rfl, hl5, hb5⟩
  rw [HL.out] at hl5
  have HL5 := Lib.hid hl5
  have HQ5 := Lib.hid (HQ4.out.below hb5)
  have HR5 := Lib.hid (HR4.out.below hb5)
  have HK5 := Lib.hid (HK4.out.below hb5)
  obtain ⟨Al, cl, rfl, hcl, hrl⟩ := hl5
  clear hb5 HK4 HQ4 HR4 y1 hcl hrl HL
  have x0 := HK5.out.x0
  have y0 := HK5.out.y0
  obtain ⟨nq, hnq⟩ : ∃ nq, (toL q).length = nq := ⟨_, rfl⟩
  obtain ⟨nr, hnr⟩ : ∃ nr, (toL r).length = nr := ⟨_, rfl⟩
  obtain ⟨nl, hnl⟩ : ∃ nl, (toL l).length = nl := ⟨_, rfl⟩
  rw [hnq] at HQ5 ⊢
  rw [hnr] at HR5 HM ⊢
  rw [hnl] at HL5 HM ⊢
  obtain ⟨cc, hcc⟩ : ∃ cc, cmpI r l = cc := ⟨_, rfl⟩
  rw [hcc] at HF
  have HCmp := Lib.hid (show ∀ W, NatAt W (.slice Ar nr cr) r → NatAt W (.slice Al nl cl) l → Calls Tryz.prog 86 #[.slice Ar nr cr, .slice Al nl cl] W fun e w' => e = .returned (.int .i64 cc) ∧ Below W.heap.size W w' from fun W h1 h2 => by
    refine (cmp_walk _ _ r l W h1 h2 (by have := HM.out; omega) (by have := HM.out; omega)).mono ?_
    rintro e w' ⟨rfl, hd⟩
    exact ⟨by rw [hcc], drewn_below hd⟩)
  have HMade := Lib.hid (show ∀ W sm, NatAt W (.slice Aq nq cq) q → Calls Tryz.prog 163 #[.int .i64 2, .bool false, .slice Aq nq cq, .bool sm, .int .i64 cc] W fun e w' => ∃ v', e = .returned (.tuple #[.agg #[.bool false, v'], .int .i64 0]) ∧ NatAt w' v' (rnd a b) ∧ Below W.heap.size W w' from fun W sm h => by
    rw [HF.out]; exact made_walk _ q sm cc W h HM.out.2.2.2.2.2.2)
  have HD := Lib.hid (below_draw' w5)
  have HKd := Lib.hid (show DvR w w5.drew (.slice Aq nq cq) (.slice Ar nr cr) (.slice Al nl cl) q r l from
    ⟨(HK5.out.below HD.out).x0, (HK5.out.below HD.out).y0, (HK5.out.below HD.out).r.anyR, HQ5.out.below HD.out, HR5.out.below HD.out, HL5.out.below HD.out, (HK5.out.below HD.out).bl⟩)
  clear hcc hnq hnr hnl HD HQ5 HR5 HL5 HK5 HF HM
  go_wp2_with fail
  go_region_held3 (fun w' => w'.cell? ⟨w.heap.size, 0, none⟩ = some (.bool false) ∧ w'.cell? ⟨w.heap.size + 1, 0, none⟩ = some (.bool false) ∧ Hid (DvR w w' (.slice Aq nq cq) (.slice Ar nr cr) (.slice Al nl cl) q r l))
    (first | exact ⟨HKd.out.x0, HKd.out.y0, HKd⟩ | (go_split_ands; (have K5 : DvR w w6 (.slice Aq nq cq) (.slice Ar nr cr) (.slice Al nl cl) q r l := DvR.below (Hid.out (by assumption)) hb6); exact ⟨K5.x0, K5.y0, Lib.hid K5⟩) | (have K5 := HK6.out.put (A := A6) (b := false) (n := (toL (rnd a b)).length) (c := c6); exact ⟨K5.x0, K5.y0, Lib.hid K5⟩))
    (first | (go_split_ands; go_at_call 86; rename_i hk; refine (HCmp.out _ hk.out.dr hk.out.dl).mono ?_; rintro e w6 ⟨rfl, hb6⟩) | (go_split_ands; go_at_call 163; rename_i hk; refine (HMade.out _ _ hk.out.dq).mono ?_; rintro e w6 ⟨s6, rfl, hn6, hb6⟩; (have HN6 := Lib.hid hn6); (have HK6 := Lib.hid (hk.out.below hb6)); obtain ⟨A6, c6, rfl, hc6, hr6⟩ := hn6; obtain ⟨⟨v0, v1, r0, r1, n0, n1⟩, r2, r3, r4⟩ := HK6.out.rr; clear hc6 hr6))
  have hp := HK6.out.rr.put (A := A6) (b := false) (n := (toL (rnd a b)).length) (c := c6)
  have hn := HN6.out.put2 HK6.out.rr (.bool false) (.slice A6 (toL (rnd a b)).length c6)
  have hb := put2_below (u0 := .bool false) (u1 := .slice A6 (toL (rnd a b)).length c6) HK6.out.bl (show w.heap.size ≤ w.heap.size + 1 + 1 by omega)
  unfold put2 at hp hn hb
  obtain ⟨_, e0, e1⟩ := hp
  go_wp2
  refine bodyPost_ret (v := .tuple #[.agg #[.bool false, .slice A6 (toL (rnd a b)).length c6], .int .i64 0]) (by simp [results, Tryz.results122, go_sem, e0, e1]) rfl ⟨_, rfl, hn, hb⟩

set_option maxRecDepth 100000 in
theorem neardiv_walk (s t : Value) (a b : Nat) (w : World) (h : NatAt w s a) (g : NatAt w t b) (hb0 : b ≠ 0) (hs1 : blen a ≤ 500000) (hs2 : (toL b).length ≤ 8192) :
    Calls Tryz.prog 67 #[.agg #[.bool false, s], .agg #[.bool false, t]] w fun e w' => ∃ s', e = .returned (.tuple #[.agg #[.bool false, s'], .int .i64 0]) ∧ NatAt w' s' (rnd a b) ∧ Below w.heap.size w w' := by
  have H := Lib.hid h
  have G := Lib.hid g
  obtain ⟨A, ca, rfl, hca, hra⟩ := h
  obtain ⟨B, cb, rfl, hcb, hrb⟩ := g
  obtain ⟨la, hla⟩ : ∃ la, (toL a).length = la := ⟨_, rfl⟩
  obtain ⟨lb, hlb⟩ : ∃ lb, (toL b).length = lb := ⟨_, rfl⟩
  rw [hla] at H ⊢
  rw [hlb] at G ⊢
  have W0 := below_chain (below_chain (below_alloc' w (.cells #[.bool false, .slice A la ca] 44)) (below_alloc' _ (.cells #[.bool false, .slice B lb cb] 44))) (below_alloc' _ (.cells #[.bool false, .slice none 0 0] 44))
  have K0 : DvS w (((w.alloc (.cells #[.bool false, .slice A la ca] 44)).alloc (.cells #[.bool false, .slice B lb cb] 44)).alloc (.cells #[.bool false, .slice none 0 0] 44)) (.slice A la ca) (.slice B lb cb) a b :=
    ⟨by simp [go_sem], by simp [go_sem], by simp [go_sem], by simp [go_sem], ⟨by simp [go_sem], by simp [go_sem], by simp [go_sem], by simp [go_sem], by simp [go_sem]⟩, H.out.below W0, G.out.below W0, W0⟩
  have HK0 := Lib.hid K0
  have HM := Lib.hid (show b ≠ 0 ∧ blen a ≤ 500000 ∧ (toL b).length ≤ 8192 from ⟨hb0, hs1, hs2⟩)
  clear hra hrb hca hcb hla hlb hs1 hs2 hb0 W0 K0 H G
  go_enter Tryz.func67, Tryz.ntmps67
  go_wp2_with fail
  obtain ⟨w1, hw1⟩ : ∃ w1, (((w.alloc (.cells #[.bool false, .slice A la ca] 44)).alloc (.cells #[.bool false, .slice B lb cb] 44)).alloc (.cells #[.bool false, .slice none 0 0] 44)) = w1 := ⟨_, rfl⟩
  rw [hw1] at HK0 ⊢
  clear hw1
  refine (wdiv_walk _ _ a b w1 HK0.out.da HK0.out.db HM.out.1 HM.out.2.1 HM.out.2.2).mono ?_
  rintro e w6 ⟨s6, rfl, hn6, hb6⟩
  have HN6 := Lib.hid hn6
  have HK6 := Lib.hid (HK0.out.below hb6)
  obtain ⟨A6, c6, rfl, hc6, hr6⟩ := hn6
  obtain ⟨r0, r1, r2, r3, r4⟩ := HK6.out.r
  clear hc6 hr6 hb6
  go_wp2
  have hR := HK6.out.r.anyR
  have hp := hR.put (A := A6) (b := false) (n := (toL (rnd a b)).length) (c := c6)
  have hn := HN6.out.put2 hR (.bool false) (.slice A6 (toL (rnd a b)).length c6)
  have hb := put2_below (u0 := .bool false) (u1 := .slice A6 (toL (rnd a b)).length c6) HK6.out.bl (show w.heap.size ≤ w.heap.size + 1 + 1 by omega)
  unfold put2 at hp hn hb
  obtain ⟨_, e0, e1⟩ := hp
  refine bodyPost_ret (v := .tuple #[.agg #[.bool false, .slice A6 (toL (rnd a b)).length c6], .int .i64 0]) (by simp [results, Tryz.results67, go_sem, e0, e1]) rfl ⟨_, rfl, hn, hb⟩
end Go.Proofs.YtmfjimmodaofdaaGreatDoor
