/- Walk of decimal: shortest. -/
import Derived.Test.YtibjogbalmbeeaaGreatDoorU29

namespace Go.Proofs.YtibjogbalmbeeaaGreatDoor
open Go.RowKit

set_option maxRecDepth 100000 in
set_option maxHeartbeats 4000000 in
theorem shortest_walk (f : Fm) (hf : f.ok) (z : Nat) (h0 : z ≠ 0) (hz : z < f.inf) (w : World) (ht : Tab64 w) :
    Calls Tryz.prog 19 #[.int .i64 (fmt f), .int .u64 (z : Int)] w fun e w' => ∃ (d : Nat) (q : Int), e = .returned (.tuple #[.string (bs (tl0 (Lib.decDigits d))), .int .i64 (q + ((Lib.decDigits d).length : Int) - ((tl0 (Lib.decDigits d)).length : Int))]) ∧ (ShOk f z d q ∧ d < 10 ^ 18 ∧ -500 ≤ q ∧ q ≤ 500) ∧ Below w.heap.size w w' := by
  have HV := Lib.hid (value_any f hf z h0 hz w ht)
  have HC := Lib.hid (fun W hT => cell_any f hf z h0 hz W hT)
  have HT := Lib.hid ht
  have hLb : -1074 ≤ f.L ∧ f.L < 0 := ⟨(Fm.ok.facts hf).2.1, (Fm.ok.facts hf).2.2.1⟩
  have HF := Lib.hid (show f.ok ∧ z ≠ 0 ∧ z < f.inf from ⟨hf, h0, hz⟩)
  obtain ⟨FF, hFF⟩ : ∃ FF, fmt f = FF := ⟨_, rfl⟩
  obtain ⟨L, hL⟩ : ∃ L, f.L = L := ⟨_, rfl⟩
  rw [hFF, hL] at HV HC
  rw [hFF]
  rw [hL] at hLb
  have HL := Lib.hid hL
  clear hf h0 hz ht hFF hL
  obtain ⟨ev, hev⟩ : ∃ ev, (z % 2 == 0) = ev := ⟨_, rfl⟩
  rw [hev] at HC
  have HEv := Lib.hid hev
  clear hev
  go_enter Tryz.func19, Tryz.ntmps19
  go_wp2_with fail
  refine HV.out.mono ?_
  rintro e w1 ⟨m, u, s, rfl, hn1, hm0, hmu, hmb, hxu, hb1⟩
  have hb2 := below_alloc' w1 (.cells #[.bool false, s, .int .i64 (L + (u : Int))] 86)
  have HN2 := Lib.hid (hn1.below hb2)
  have HW2 := Lib.hid (below_chain hb1 hb2)
  have HY2 : Hid (Box3 (w1.alloc (.cells #[.bool false, s, .int .i64 (L + (u : Int))] 86)) w1.heap.size (.bool false) s (.int .i64 (L + (u : Int)))) := Lib.hid ⟨by simp, by simp, by simp, by simp, by simp, by simp, by simp⟩
  have HM := Lib.hid (show m ≠ 0 ∧ m * 2 ^ (u + 1) = 2 * vP f z ∧ blen m ≤ 64 ∧ L + (u : Int) ≤ 1026 from ⟨hm0, hmu, hmb, hxu⟩)
  obtain ⟨A1, c1, rfl, hc1, hr1⟩ := hn1
  obtain ⟨n1, hn1⟩ : ∃ n, (toL m).length = n := ⟨_, rfl⟩
  rw [hn1] at HN2 HW2 HY2 ⊢
  clear hb1 hb2 hc1 hr1 hn1 hm0 hmu hmb hxu HV
  go_wp2_with fail
  obtain ⟨w2, hw2⟩ : ∃ w2, w1.alloc (.cells #[.bool false, .slice A1 n1 c1, .int .i64 (L + (u : Int))] 86) = w2 := ⟨_, rfl⟩
  obtain ⟨gv, hgv⟩ : ∃ g, w1.heap.size = g := ⟨_, rfl⟩
  rw [hw2] at HN2 HW2 HY2 ⊢
  rw [hgv] at HY2 ⊢
  clear hw2 hgv
  refine (HC.out w2 (HT.out.below HW2.out)).mono ?_
  rintro e w3 ⟨ml, ul, mh, uh, sl, sh, rfl, hnl, hnh, hml, hmh, hbl, hbh, hxl, hxh, hb3⟩
  have hb4 := below_alloc' w3 (.cells #[.bool false, sl, .int .i64 (L - 1 + (ul : Int)), .bool false, sh, .int .i64 (L - 1 + (uh : Int))] 90)
  have HMl := Lib.hid (show ml * 2 ^ ul = md f (z - 1) ∧ mh * 2 ^ uh = md f z ∧ blen ml ≤ 64 ∧ blen mh ≤ 64 ∧ L - 1 + (ul : Int) ≤ 1026 ∧ L - 1 + (uh : Int) ≤ 1026 from ⟨hml, hmh, hbl, hbh, hxl, hxh⟩)
  have hY4 := (HY2.out.below hb3).below hb4
  have HS4 := Lib.hid (show ShS w (w3.alloc (.cells #[.bool false, sl, .int .i64 (L - 1 + (ul : Int)), .bool false, sh, .int .i64 (L - 1 + (uh : Int))] 90)) gv w3.heap.size (.slice A1 n1 c1) sl sh m ml mh (L + (u : Int)) (L - 1 + (ul : Int)) (L - 1 + (uh : Int)) from
    ⟨hY4.1, hY4.2.1, hY4.2.2.1, by simp, by simp, by simp, by simp, by simp, by simp, (HN2.out.below hb3).below hb4, hnl.below hb4, hnh.below hb4, below_chain (below_chain HW2.out hb3) hb4⟩)
  obtain ⟨Al, cl, rfl, hcl, hrl⟩ := hnl
  obtain ⟨Ah, ch, rfl, hch, hrh⟩ := hnh
  obtain ⟨nl, hnl⟩ : ∃ n, (toL ml).length = n := ⟨_, rfl⟩
  obtain ⟨nh, hnh⟩ : ∃ n, (toL mh).length = n := ⟨_, rfl⟩
  rw [hnl, hnh] at HS4 ⊢
  have v0 := HS4.out.v0
  have v1 := HS4.out.v1
  have v2 := HS4.out.v2
  clear hb3 hb4 hY4 hcl hrl hch hrh hnl hnh hml hmh hbl hbh hxl hxh HC HN2 HW2 HY2
  go_wp2_with fail
  obtain ⟨w4, hw4⟩ : ∃ w4, w3.alloc (.cells #[.bool false, .slice Al nl cl, .int .i64 (L - 1 + (ul : Int)), .bool false, .slice Ah nh ch, .int .i64 (L - 1 + (uh : Int))] 90) = w4 := ⟨_, rfl⟩
  obtain ⟨gc, hgc⟩ : ∃ g, w3.heap.size = g := ⟨_, rfl⟩
  rw [hw4] at HS4 ⊢
  rw [hgc] at HS4 ⊢
  clear hw4 hgc v0 v1 v2
  refine (tens_walk _ m (L + (u : Int)) w4 HS4.out.nm HM.out.1 HM.out.2.2.1 (by omega) (by have := HM.out; omega)).mono ?_
  rintro e w5 ⟨t, rfl, htn, ht1, ht2, hb5⟩
  have HTn := Lib.hid htn
  have HS5 := Lib.hid (HS4.out.below hb5)
  clear htn hb5 HS4
  go_wp2_with fail
  go_loopg [12] 16 (fun g nv wr => ∃ n : Nat, n + g = 17 ∧ 1 ≤ n ∧ nv = .int .i64 (n : Int) ∧ Hid (∀ k : Nat, 1 ≤ k → k < n → shD f z (t - k + 1) = none) ∧ Hid (ShS w wr gv gc (.slice A1 n1 c1) (.slice Al nl cl) (.slice Ah nh ch) m ml mh (L + (u : Int)) (L - 1 + (ul : Int)) (L - 1 + (uh : Int))))
  case atStart => exact ⟨1, rfl, Nat.le_refl _, rfl, Lib.hid (fun k h1 h2 => by omega), HS5⟩
  case round =>
    obtain ⟨n, hng, hn1', rfl, HNo, HSr⟩ := hrel
    obtain ⟨w6, hw6⟩ : ∃ w6, w6 = wr := ⟨_, rfl⟩
    subst hw6
    obtain ⟨q, hq⟩ : ∃ q : Int, t - n + 1 = q := ⟨_, rfl⟩
    have p1 : IntKind.i64.wrap (t - (n : Int)) = t - (n : Int) := by rw [IntKind.wrap_i64]; omega
    have p2 : IntKind.i64.wrap (t - (n : Int) + 1) = q := by rw [IntKind.wrap_i64]; omega
    have hqb : -500 ≤ q ∧ q ≤ 500 := by omega
    have HQ := Lib.hid hq
    have v0 := HSr.out.v0
    have v1 := HSr.out.v1
    have v2 := HSr.out.v2
    clear hq HS5
    go_wp2_with fail
    refine (in10_walk _ m (L + (u : Int)) q w6 HSr.out.nm HM.out.2.2.1 (by omega) (by have := HM.out; omega) (by omega) (by omega)).mono ?_
    rintro e w7 ⟨va, vb, rfl, ha7, hb7, hk7⟩
    have hb8 := below_alloc' w7 (.cells #[va, vb] 95)
    obtain ⟨A, hA⟩ : ∃ A, inA m (L + (u : Int)) q = A := ⟨_, rfl⟩
    obtain ⟨B, hB⟩ : ∃ B, inB (L + (u : Int)) q = B := ⟨_, rfl⟩
    have HAB := Lib.hid (show inA m (L + (u : Int)) q = A ∧ inB (L + (u : Int)) q = B from ⟨hA, hB⟩)
    rw [hA] at ha7
    rw [hB] at hb7
    have hAb : blen A ≤ 7601 := by rw [← hA]; exact (inA_blen HM.out.2.2.1 (by have := HM.out; omega) (by omega)).2.2
    have hBb : blen B ≤ 7601 := by rw [← hB]; exact (inB_blen (by omega) (by omega)).2
    have hB0 : 0 < B := by rw [← hB]; exact inB_pos _ _
    have HBl := Lib.hid (show blen A ≤ 7601 ∧ blen B ≤ 7601 ∧ 0 < B from ⟨hAb, hBb, hB0⟩)
    have HA8 := Lib.hid (ha7.below hb8)
    have HB8 := Lib.hid (hb7.below hb8)
    have HS8 := Lib.hid ((HSr.out.below hk7).below hb8)
    have hX8 : Box2 (w7.alloc (.cells #[va, vb] 95)) w7.heap.size va vb := ⟨by simp, by simp, by simp, by simp, by simp⟩
    have HX8 := Lib.hid hX8
    obtain ⟨Aa, ca, rfl, hca, hra⟩ := ha7
    obtain ⟨Ab, cb, rfl, hcb, hrb⟩ := hb7
    obtain ⟨na, hna⟩ : ∃ n, (toL A).length = n := ⟨_, rfl⟩
    obtain ⟨nb, hnb⟩ : ∃ n, (toL B).length = n := ⟨_, rfl⟩
    rw [hna, hnb] at HS8 HX8 ⊢
    rw [hna] at HA8
    rw [hnb] at HB8
    rw [hnb] at HA8
    rw [hna] at HB8
    have x0 := HX8.out.1
    have x1 := HX8.out.2.1
    have hla : (toL A).length ≤ 8192 ∧ (toL B).length ≤ 8192 := by rw [toL_length, toL_length]; omega
    have HLn := Lib.hid hla
    clear hk7 hb8 hX8 hca hra hcb hrb hna hnb hA hB hAb hBb hB0 hla v0 v1 v2 HSr
    go_wp2_with fail
    obtain ⟨w8, hw8⟩ : ∃ w8, w7.alloc (.cells #[.slice Aa na ca, .slice Ab nb cb] 95) = w8 := ⟨_, rfl⟩
    obtain ⟨gr, hgr⟩ : ∃ g, w7.heap.size = g := ⟨_, rfl⟩
    rw [hw8] at HS8 HX8 HA8 HB8 ⊢
    rw [hgr] at HX8 ⊢
    clear hw8 hgr x0 x1
    refine (quorem_walk _ _ A B w8 HA8.out HB8.out (by have := HBl.out; omega) HLn.out.1 HLn.out.2).mono ?_
    rintro e w9 ⟨lo, le, rfl, hlo9, hle9, hb9⟩
    have HR9 := Lib.hid (show w9.cell? ⟨gr, 0, none⟩ = some (.slice Aa na ca) ∧ w9.cell? ⟨gr, 1, none⟩ = some (.slice Ab nb cb) ∧ NatAt w9 (.slice Aa na ca) A ∧ NatAt w9 (.slice Ab nb cb) B ∧ NatAt w9 lo (A / B) ∧ NatAt w9 le (A % B) from ⟨cell_kept hb9 HX8.out.1, cell_kept hb9 HX8.out.2.1, HA8.out.below hb9, HB8.out.below hb9, hlo9, hle9⟩)
    have HS9 := Lib.hid (HS8.out.below hb9)
    clear hlo9 hle9 hb9 HS8 HX8 HA8 HB8 HLn
    go_wp2_with fail
    refine (word_walk 1 w9 (by rw [W64_num]; omega)).mono ?_
    rintro e w10 ⟨v1', rfl, hn10, hb10⟩
    have hqb2 : blen (A / B + 1) ≤ 524288 := by
      have h1 : A / B + 1 ≤ A + 1 := Nat.succ_le_succ (Nat.div_le_self _ _)
      have h2 : blen (A + 1) ≤ blen A + 1 := by
        have := blen_hi A
        exact blen_le.2 (by rw [Nat.pow_succ]; have := Nat.two_pow_pos (blen A); omega)
      have := blen_mono h1
      have := HBl.out
      omega
    have HN10 := Lib.hid hn10
    have HR10 := Lib.hid (show w10.cell? ⟨gr, 0, none⟩ = some (.slice Aa na ca) ∧ w10.cell? ⟨gr, 1, none⟩ = some (.slice Ab nb cb) ∧ NatAt w10 (.slice Aa na ca) A ∧ NatAt w10 (.slice Ab nb cb) B ∧ NatAt w10 lo (A / B) ∧ NatAt w10 le (A % B) from ⟨cell_kept hb10 HR9.out.1, cell_kept hb10 HR9.out.2.1, HR9.out.2.2.1.below hb10, HR9.out.2.2.2.1.below hb10, HR9.out.2.2.2.2.1.below hb10, HR9.out.2.2.2.2.2.below hb10⟩)
    have HS10 := Lib.hid (HS9.out.below hb10)
    have HQb := Lib.hid hqb2
    clear hn10 hb10 HS9 HR9 hqb2
    go_wp2_with fail
    refine (add_walk _ _ (A / B) 1 w10 HR10.out.2.2.2.2.1 HN10.out HQb.out).mono ?_
    rintro e w11 ⟨hi, rfl, hh11, hb11⟩
    have HR11 := Lib.hid (show ShR w w11 gv gc (.slice A1 n1 c1) (.slice Al nl cl) (.slice Ah nh ch) m ml mh (L + (u : Int)) (L - 1 + (ul : Int)) (L - 1 + (uh : Int)) gr (.slice Aa na ca) (.slice Ab nb cb) lo le hi A B from
      ⟨HS10.out.below hb11, cell_kept hb11 HR10.out.1, cell_kept hb11 HR10.out.2.1, HR10.out.2.2.1.below hb11, HR10.out.2.2.2.1.below hb11, HR10.out.2.2.2.2.1.below hb11, HR10.out.2.2.2.2.2.below hb11, hh11⟩)
    clear hh11 hb11 HS10 HR10 HN10 p1 p2
    have HIn := Lib.hid (fun (W : World) (v : Value) (M : Nat) (X : Int) (h : (NatAt W v M ∧ blen M ≤ 64) ∧ -1500 ≤ X ∧ X ≤ 1500) => in10_walk v M X q W h.1.1 h.1.2 h.2.1 h.2.2 (by omega) (by omega))
    have HXl := Lib.hid (show (-1500 ≤ L - 1 + (ul : Int) ∧ L - 1 + (ul : Int) ≤ 1500) ∧ -1500 ≤ L - 1 + (uh : Int) ∧ L - 1 + (uh : Int) ≤ 1500 by have := HMl.out; omega)
    have HSof : Hid (∀ W : World, Below w11.heap.size w11 W → (W.cell? ⟨gc, 0, none⟩ = some (.bool false) ∧ W.cell? ⟨gc, 1, none⟩ = some (.slice Al nl cl) ∧ W.cell? ⟨gc, 2, none⟩ = some (.int .i64 (L - 1 + (ul : Int))) ∧ W.cell? ⟨gc, 3, none⟩ = some (.bool false) ∧ W.cell? ⟨gc, 4, none⟩ = some (.slice Ah nh ch) ∧ W.cell? ⟨gc, 5, none⟩ = some (.int .i64 (L - 1 + (uh : Int))) ∧ Hid (Below w11.heap.size w11 W))) := Lib.hid (fun W h => ⟨(HR11.out.b.below h).l0, (HR11.out.b.below h).l1, (HR11.out.b.below h).l2, (HR11.out.b.below h).h0, (HR11.out.b.below h).h1, (HR11.out.b.below h).h2, Lib.hid h⟩)
    have HBd := Lib.hid (show Below w11.heap.size w11 w11.drew from below_draw' w11)
    have l0 := HR11.out.b.l0
    have l1 := HR11.out.b.l1
    have l2 := HR11.out.b.l2
    have h0' := HR11.out.b.h0
    have h1' := HR11.out.b.h1
    have h2' := HR11.out.b.h2
    go_upto_region 10 with fail
    go_cut [20, 21] from 42 to 137 (fun s20 s21 wx => ∃ (g2 g3 : Nat) (la lb ha hb : Value), s20 = .pointer (some ⟨g2, 0, none⟩) ∧ s21 = .pointer (some ⟨g3, 0, none⟩) ∧ Hid (RaAt wx g2 la lb (inA ml (L - 1 + (ul : Int)) q) (inB (L - 1 + (ul : Int)) q) ∧ RaAt wx g3 ha hb (inA mh (L - 1 + (uh : Int)) q) (inB (L - 1 + (uh : Int)) q) ∧ Below w11.heap.size w11 wx))
    case first =>
      clear l0 l1 l2 h0' h1' h2'
      go_region_held3 (fun w' => w'.cell? ⟨gc, 0, none⟩ = some (.bool false) ∧ w'.cell? ⟨gc, 1, none⟩ = some (.slice Al nl cl) ∧ w'.cell? ⟨gc, 2, none⟩ = some (.int .i64 (L - 1 + (ul : Int))) ∧ w'.cell? ⟨gc, 3, none⟩ = some (.bool false) ∧ w'.cell? ⟨gc, 4, none⟩ = some (.slice Ah nh ch) ∧ w'.cell? ⟨gc, 5, none⟩ = some (.int .i64 (L - 1 + (uh : Int))) ∧ Hid (Below w11.heap.size w11 w'))
        (first | (refine HSof.out _ ?_; (repeat (first | exact hk13.out | exact hk12.out | exact HBd.out | exact Below.refl _ _ | refine below_new ?_ _ | refine Below.drew ?_ | refine below_put ?_ (by (try have z12 := sz12.out); (try have z13 := sz13.out); omega) _)); done))
        (first | (go_split_ands; rename_i hk; go_at_call_of 37 (Value.slice Al nl cl); refine (HIn.out _ (.slice Al nl cl) ml (L - 1 + (ul : Int)) ⟨⟨HR11.out.b.nl.below hk.out, HMl.out.2.2.1⟩, HXl.out.1⟩).mono ?_; rintro e w12 ⟨vla, vlb, rfl, hla, hlb, hb12⟩; (have hk12 := Lib.hid (hk.out.trans (hb12.mono hk.out.size))); (have HLa := Lib.hid (And.intro hla hlb)); (first | (have hx := zz2 (W := w11.drew) (K := w11.heap.size) rfl hb12; (have sz12 := Lib.hid (Nat.le_trans (Nat.le_add_right _ 2) hx.2.2)); (have HX1 := Lib.hid hx.1); (have c10 := HX1.out.1); (have c11 := HX1.out.2.1); (have f10 := HX1.out.2.2.1); (have f11 := HX1.out.2.2.2.1); (have zl1 := HX1.out.2.2.2.2); (have zm1 := Nat.ne_of_lt zl1); (have zn1 := Nat.ne_of_gt zl1); (have HX2 := Lib.hid hx.2.1); (have c20 := HX2.out.1); (have c21 := HX2.out.2.1); (have f20 := HX2.out.2.2.1); (have f21 := HX2.out.2.2.2.1); (have zl2 := HX2.out.2.2.2.2); (have zm2 := Nat.ne_of_lt zl2); (have zn2 := Nat.ne_of_gt zl2); clear hx) | (have hx := zz1 (W := w11.drew) (K := w11.heap.size) rfl hb12; (have sz12 := Lib.hid (Nat.le_trans (Nat.le_add_right _ 1) hx.2)); (have HX1 := Lib.hid hx.1); (have c10 := HX1.out.1); (have c11 := HX1.out.2.1); (have f10 := HX1.out.2.2.1); (have f11 := HX1.out.2.2.2.1); (have zl1 := HX1.out.2.2.2.2); (have zm1 := Nat.ne_of_lt zl1); (have zn1 := Nat.ne_of_gt zl1); clear hx) | (have sz12 := Lib.hid (show w11.heap.size ≤ w12.heap.size from hb12.size))); (obtain ⟨A5, c5, rfl, _, _⟩ := hla); (obtain ⟨A6, c6, rfl, _, _⟩ := hlb)) | (go_split_ands; rename_i hk; go_at_call_of 37 (Value.slice Ah nh ch); refine (HIn.out _ (.slice Ah nh ch) mh (L - 1 + (uh : Int)) ⟨⟨HR11.out.b.nh.below hk.out, HMl.out.2.2.2.1⟩, HXl.out.2⟩).mono ?_; rintro e w13 ⟨vha, vhb, rfl, hha, hhb, hb13⟩; (have hk13 := Lib.hid (hk.out.trans (hb13.mono hk.out.size))); (have HHa := Lib.hid (And.intro hha hhb)); (have HLa2 := Lib.hid (show NatAt w13 (.slice A5 _ c5) (inA ml (L - 1 + (ul : Int)) q) ∧ NatAt w13 (.slice A6 _ c6) (inB (L - 1 + (ul : Int)) q) from ⟨by (first | exact (HLa.out.1).below hb13 | exact ((HLa.out.1).below (below_alloc' _ _)).below hb13 | exact (((HLa.out.1).below (below_alloc' _ _)).below (below_alloc' _ _)).below hb13), by (first | exact (HLa.out.2).below hb13 | exact ((HLa.out.2).below (below_alloc' _ _)).below hb13 | exact (((HLa.out.2).below (below_alloc' _ _)).below (below_alloc' _ _)).below hb13)⟩)); (first | (have hx := zz2 (K := w12.heap.size) rfl hb13; (have sz13 := Lib.hid (Nat.le_trans (Nat.le_add_right _ 2) hx.2.2)); (have HX3 := Lib.hid hx.1); (have c30 := HX3.out.1); (have c31 := HX3.out.2.1); (have f30 := HX3.out.2.2.1); (have f31 := HX3.out.2.2.2.1); (have zl3 := HX3.out.2.2.2.2); (have zm3 := Nat.ne_of_lt zl3); (have zn3 := Nat.ne_of_gt zl3); (have HX4 := Lib.hid hx.2.1); (have c40 := HX4.out.1); (have c41 := HX4.out.2.1); (have f40 := HX4.out.2.2.1); (have f41 := HX4.out.2.2.2.1); (have zl4 := HX4.out.2.2.2.2); (have zm4 := Nat.ne_of_lt zl4); (have zn4 := Nat.ne_of_gt zl4); clear hx) | (have hx := zz1 (K := w12.heap.size) rfl hb13; (have sz13 := Lib.hid (Nat.le_trans (Nat.le_add_right _ 1) hx.2)); (have HX3 := Lib.hid hx.1); (have c30 := HX3.out.1); (have c31 := HX3.out.2.1); (have f30 := HX3.out.2.2.1); (have f31 := HX3.out.2.2.2.1); (have zl3 := HX3.out.2.2.2.2); (have zm3 := Nat.ne_of_lt zl3); (have zn3 := Nat.ne_of_gt zl3); clear hx) | (have sz13 := Lib.hid (show w12.heap.size ≤ w13.heap.size from hb13.size))); (try (have hy : Box2 w13 w11.heap.size (.slice none 0 0) (.slice none 0 0) := by (first | exact (HX1.out).below hb13 | exact ((HX1.out).below (below_alloc' _ _)).below hb13 | exact (((HX1.out).below (below_alloc' _ _)).below (below_alloc' _ _)).below hb13)); (have HX5 := Lib.hid hy); (have c50 := HX5.out.1); (have c51 := HX5.out.2.1); (have f50 := HX5.out.2.2.1); (have f51 := HX5.out.2.2.2.1); (have zl5 := HX5.out.2.2.2.2); (have zm5 := Nat.ne_of_lt zl5); (have zn5 := Nat.ne_of_gt zl5); clear hy); (try (have hy : Box2 w13 (w11.heap.size + 1) (.slice none 0 0) (.slice none 0 0) := by (first | exact (HX2.out).below hb13 | exact ((HX2.out).below (below_alloc' _ _)).below hb13 | exact (((HX2.out).below (below_alloc' _ _)).below (below_alloc' _ _)).below hb13)); (have HX6 := Lib.hid hy); (have c60 := HX6.out.1); (have c61 := HX6.out.2.1); (have f60 := HX6.out.2.2.1); (have f61 := HX6.out.2.2.2.1); (have zl6 := HX6.out.2.2.2.2); (have zm6 := Nat.ne_of_lt zl6); (have zn6 := Nat.ne_of_gt zl6); clear hy); (obtain ⟨A7, c7, rfl, _, _⟩ := hha); (obtain ⟨A8, c8, rfl, _, _⟩ := hhb)))
      all_goals (go_wp2_with fail; go_meet; first | with_reducible exact ⟨_, _, _, _, _, _, rfl, rfl, Lib.hid (alloc_alloc hk13.out HLa2.out HHa.out)⟩ | with_reducible exact ⟨_, _, _, _, _, _, rfl, rfl, Lib.hid (swap3 (alloc_alloc hk13.out HHa.out HLa2.out))⟩ | with_reducible exact ⟨_, _, _, _, _, _, rfl, rfl, Lib.hid (put_alloc HX3.out hk13.out sz12.out HLa2.out HHa.out)⟩ | with_reducible exact ⟨_, _, _, _, _, _, rfl, rfl, Lib.hid (swap3 (put_alloc HX3.out hk13.out sz12.out HHa.out HLa2.out))⟩ | with_reducible exact ⟨_, _, _, _, _, _, rfl, rfl, Lib.hid (put_alloc HX5.out hk13.out (Nat.le_refl _) HLa2.out HHa.out)⟩ | with_reducible exact ⟨_, _, _, _, _, _, rfl, rfl, Lib.hid (swap3 (put_alloc HX5.out hk13.out (Nat.le_refl _) HHa.out HLa2.out))⟩ | with_reducible exact ⟨_, _, _, _, _, _, rfl, rfl, Lib.hid (two_ratios HX3.out HX4.out (Nat.ne_of_lt (Nat.lt_add_one _)) hk13.out sz12.out (Nat.le_trans sz12.out (Nat.le_add_right _ 1)) HLa2.out HHa.out)⟩ | with_reducible exact ⟨_, _, _, _, _, _, rfl, rfl, Lib.hid (two_ratios HX4.out HX3.out (Nat.ne_of_gt (Nat.lt_add_one _)) hk13.out (Nat.le_trans sz12.out (Nat.le_add_right _ 1)) sz12.out HLa2.out HHa.out)⟩ | with_reducible exact ⟨_, _, _, _, _, _, rfl, rfl, Lib.hid (two_ratios HX5.out HX3.out (Nat.ne_of_lt zl1) hk13.out (Nat.le_refl _) sz12.out HLa2.out HHa.out)⟩ | with_reducible exact ⟨_, _, _, _, _, _, rfl, rfl, Lib.hid (two_ratios HX5.out HX6.out (Nat.ne_of_lt (Nat.lt_add_one _)) hk13.out (Nat.le_refl _) (Nat.le_add_right _ 1) HLa2.out HHa.out)⟩ | with_reducible exact ⟨_, _, _, _, _, _, rfl, rfl, Lib.hid (two_ratios HX3.out HX5.out (Nat.ne_of_gt zl1) hk13.out sz12.out (Nat.le_refl _) HLa2.out HHa.out)⟩ | with_reducible exact ⟨_, _, _, _, _, _, rfl, rfl, Lib.hid (two_ratios HX6.out HX5.out (Nat.ne_of_gt (Nat.lt_add_one _)) hk13.out (Nat.le_add_right _ 1) (Nat.le_refl _) HLa2.out HHa.out)⟩)
    case rest =>
      obtain ⟨g2, g3, la, lb, ha, hb, rfl, rfl, HK⟩ := hcut
      obtain ⟨w20, hw20⟩ : ∃ w20, w20 = wc := ⟨_, rfl⟩
      subst hw20
      obtain ⟨AL, hAL⟩ : ∃ a, inA ml (L - 1 + (ul : Int)) q = a := ⟨_, rfl⟩
      obtain ⟨BL, hBL⟩ : ∃ a, inB (L - 1 + (ul : Int)) q = a := ⟨_, rfl⟩
      obtain ⟨AH, hAH⟩ : ∃ a, inA mh (L - 1 + (uh : Int)) q = a := ⟨_, rfl⟩
      obtain ⟨BH, hBH⟩ : ∃ a, inB (L - 1 + (uh : Int)) q = a := ⟨_, rfl⟩
      obtain ⟨cL, hcL⟩ : ∃ c, cmpI (A / B * BL) AL = c := ⟨_, rfl⟩
      obtain ⟨cH, hcH⟩ : ∃ c, cmpI ((A / B + 1) * BH) AH = c := ⟨_, rfl⟩
      obtain ⟨cr, hcr⟩ : ∃ c, cmpI (A % B * 2) B = c := ⟨_, rfl⟩
      obtain ⟨bt, hbt⟩ : ∃ b, tb (A / B) 0 = b := ⟨_, rfl⟩
      have hsr := sh_round (q := q) (A := A) (B := B) HF.out.1 HEv.out HM.out.2.1 HMl.out.1 HMl.out.2.1 (by rw [HL.out]; exact HAB.out.1) (by rw [HL.out]; exact HAB.out.2)
      have hsm := ab_small (n := n) (A := A) (B := B) HF.out.1 HM.out.2.1 (by rw [HL.out]; exact HTn.out) HQ.out (by rw [HL.out]; exact HAB.out.1) (by rw [HL.out]; exact HAB.out.2)
      rw [HL.out, hAL, hBL, hAH, hBH, hcL, hcH, hcr, hbt] at hsr
      have hqa : blen (A / B) ≤ 7601 := Nat.le_trans (blen_mono (Nat.div_le_self _ _)) HBl.out.1
      have hqb : blen (A / B + 1) ≤ 7602 := by
        have h2 := blen_hi (A / B)
        have h3 : blen (A / B + 1) ≤ blen (A / B) + 1 := blen_le.2 (by rw [Nat.pow_succ]; have := Nat.two_pow_pos (blen (A / B)); omega)
        omega
      have hre : blen (A % B) ≤ 7601 := Nat.le_trans (blen_mono (Nat.le_of_lt (Nat.mod_lt _ HBl.out.2.2))) HBl.out.2.1
      have hbs : (blen AL ≤ 60000 ∧ blen BL ≤ 60000) ∧ blen AH ≤ 60000 ∧ blen BH ≤ 60000 := by
        have k1 := (inA_blen (m := ml) (x := L - 1 + (ul : Int)) (q := q) HMl.out.2.2.1 (by have := HMl.out; omega) (by omega)).2.2
        have k2 := (inB_blen (x := L - 1 + (ul : Int)) (q := q) (by omega) (by omega)).2
        have k3 := (inA_blen (m := mh) (x := L - 1 + (uh : Int)) (q := q) HMl.out.2.2.2.1 (by have := HMl.out; omega) (by omega)).2.2
        have k4 := (inB_blen (x := L - 1 + (uh : Int)) (q := q) (by omega) (by omega)).2
        rw [hAL] at k1
        rw [hBL] at k2
        rw [hAH] at k3
        rw [hBH] at k4
        omega
      have hlow := fun W (h1 : RaAt W g2 la lb AL BL) (h2 : NatAt W lo (A / B)) => rcmp_walk la lb lo AL BL (A / B) W h1.2.2.1 h1.2.2.2 h2 hbs.1.1 hbs.1.2 (by omega)
      have hhiw := fun W (h1 : RaAt W g3 ha hb AH BH) (h2 : NatAt W hi (A / B + 1)) => rcmp_walk ha hb hi AH BH (A / B + 1) W h1.2.2.1 h1.2.2.2 h2 hbs.2.1 hbs.2.2 (by omega)
      rw [hcL] at hlow
      rw [hcH] at hhiw
      rw [hAL, hBL, hAH, hBH] at HK
      have HLow := Lib.hid hlow
      have HHiw := Lib.hid hhiw
      have HSr := Lib.hid hsr
      have HSm := Lib.hid hsm
      have HBn := Lib.hid (show blen (A / B) ≤ 7601 ∧ blen (A / B + 1) ≤ 7602 ∧ blen (A % B) ≤ 7601 from ⟨hqa, hqb, hre⟩)
      have hcl3 := cmpI_cases (A / B * BL) AL
      have hch3 := cmpI_cases ((A / B + 1) * BH) AH
      have hcr3 := cmpI_cases (A % B * 2) B
      rw [hcL] at hcl3
      rw [hcH] at hch3
      rw [hcr] at hcr3
      have HC3 := Lib.hid (And.intro hcl3 (And.intro hch3 hcr3))
      have HCr := Lib.hid hcr
      have HBt := Lib.hid hbt
      have HRc := Lib.hid (HR11.out.below HK.out.2.2)
      clear hcl3 hch3 hcr3 hqa hqb hre hsr hsm hlow hhiw hbs hcL hcH hAL hBL hAH hBH hcr hbt HR11
      go_upto_region 11 with fail
      go_cut [22] from 42 to 137 (fun s22 wx => s22 = .bool (okL cL ev) ∧ Hid (Below w20.heap.size w20 wx))
      case first =>
        have x0 := HK.out.1.1
        have x1 := HK.out.1.2.1
        rcases HC3.out.1 with h | h | h <;> subst h <;> cases ev
        all_goals (go_wp2_with fail; refine (HLow.out _ HK.out.1 HRc.out.no).mono ?_; rintro e w12 ⟨rfl, hb12⟩; (have y0 := cell_kept hb12 x0); (have y1 := cell_kept hb12 x1); clear x0 x1; go_wp2_with fail; first | (go_meet; exact ⟨rfl, Lib.hid hb12⟩) | (refine (HLow.out _ (HK.out.1.below hb12) (HRc.out.no.below hb12)).mono ?_; rintro e w13 ⟨rfl, hb13⟩; go_wp2_with fail; go_meet; exact ⟨rfl, Lib.hid (below_chain hb12 hb13)⟩))
      case rest =>
        obtain ⟨rfl, HKb⟩ := hcut
        obtain ⟨w21, hw21⟩ : ∃ w21, w21 = wc := ⟨_, rfl⟩
        subst hw21
        have HRd := Lib.hid (HRc.out.below HKb.out)
        have HKh := Lib.hid (HK.out.2.1.below HKb.out)
        have HKt := Lib.hid (below_next HK.out.2.2 HK.out.2.2.size HKb.out)
        obtain ⟨bL, hbL⟩ : ∃ b, okL cL ev = b := ⟨_, rfl⟩
        rw [hbL] at HSr ⊢
        clear hbL HRc HKb HK HLow
        go_upto_region 12 with fail
        go_cut [23] from 42 to 137 (fun s23 wx => s23 = .bool (okH cH ev) ∧ Hid (Below w21.heap.size w21 wx))
        case first =>
          have x0 := HKh.out.1
          have x1 := HKh.out.2.1
          rcases HC3.out.2.1 with h | h | h <;> subst h <;> cases ev
          all_goals (go_wp2_with fail; refine (HHiw.out _ HKh.out HRd.out.nn).mono ?_; rintro e w12 ⟨rfl, hb12⟩; (have y0 := cell_kept hb12 x0); (have y1 := cell_kept hb12 x1); clear x0 x1; go_wp2_with fail; first | (go_meet; exact ⟨rfl, Lib.hid hb12⟩) | (refine (HHiw.out _ (HKh.out.below hb12) (HRd.out.nn.below hb12)).mono ?_; rintro e w13 ⟨rfl, hb13⟩; go_wp2_with fail; go_meet; exact ⟨rfl, Lib.hid (below_chain hb12 hb13)⟩))
        case rest =>
          obtain ⟨rfl, HKb⟩ := hcut
          obtain ⟨w22, hw22⟩ : ∃ w22, w22 = wc := ⟨_, rfl⟩
          subst hw22
          have HRe := Lib.hid (HRd.out.below HKb.out)
          have HKu := Lib.hid (below_next HKt.out HKt.out.size HKb.out)
          obtain ⟨bH, hbH⟩ : ∃ b, okH cH ev = b := ⟨_, rfl⟩
          rw [hbH] at HSr ⊢
          clear hbH HRd HKb HKt HKh HHiw
          have HFo := Lib.hid (fun d (hd : shD f z q = some d) => sh_found HF.out.1 HM.out.2.1 (by rw [HL.out]; exact HTn.out) hn1' (by omega) HQ.out hd HNo.out)
          have HD18 : Hid (A / B < 10 ^ 18 ∧ A / B + 1 < 10 ^ 18) := by
            have h1 := HSm.out
            have h2 : 10 ^ n ≤ 10 ^ 17 := Nat.pow_le_pow_right (by omega) (by omega)
            exact Lib.hid ⟨by omega, by omega⟩
          cases bL <;> cases bH
          · have hno : shD f z q = none := by have h := HSr.out; simpa using h
            have hn17 := sh_last (n := n) HF.out.1 HF.out.2.1 HM.out.2.1 (by rw [HL.out]; exact HTn.out) HQ.out hno (by omega)
            have HN2 : Hid (∀ k : Nat, 1 ≤ k → k < n + 1 → shD f z (t - k + 1) = none) := Lib.hid fun k h1 h2 => by
              by_cases hk : k = n
              · subst hk; rw [HQ.out]; exact hno
              · exact HNo.out k h1 (by omega)
            clear hno
            go_wp2_with fail
            go_roundg (gk - 1)
            case measure => omega
            case rel => exact ⟨n + 1, by omega, by omega, by simp, HN2, Lib.hid HRe.out.b⟩
          · go_wp2_with fail
            refine (stripped_walk hi (A / B + 1) 18 q _ (HRe.out.nn) HD18.out.2 (by omega) (by omega) (by omega) (by omega)).mono ?_
            rintro e w23 ⟨rfl, hb23⟩
            go_wp2_with fail
            go_ret2
            exact ⟨_, q, rfl, ⟨HFo.out _ (by have h := HSr.out; simpa using h), HD18.out.2, by omega, by omega⟩, below_chain (HRe.out.b.bl) hb23⟩
          · go_wp2_with fail
            refine (stripped_walk lo (A / B) 18 q _ (HRe.out.no) HD18.out.1 (by omega) (by omega) (by omega) (by omega)).mono ?_
            rintro e w23 ⟨rfl, hb23⟩
            go_wp2_with fail
            go_ret2
            exact ⟨_, q, rfl, ⟨HFo.out _ (by have h := HSr.out; simpa using h), HD18.out.1, by omega, by omega⟩, below_chain (HRe.out.b.bl) hb23⟩
          · go_wp2_with fail
            refine (shl_walk le (A % B) 1 w22 HRe.out.ne (by omega) (by have := HBn.out; omega)).mono ?_
            rintro e w14 ⟨dv, rfl, hdv, hb14⟩
            rw [show (2 : Nat) ^ Int.toNat 1 = 2 from rfl] at hdv
            have x1 := cell_kept hb14 HRe.out.r1
            have hcm := fun hs1 hs2 => cmp_walk dv (.slice Ab nb cb) (A % B * 2) B w14 hdv (HRe.out.nb.below hb14) hs1 hs2
            rw [HCr.out] at hcm
            have HCm := Lib.hid (hcm (by have := HBn.out; have := blen_mul (A % B) 2; have : blen 2 = 2 := by decide
                                         rw [toL_length]; omega) (by have := HBl.out; rw [toL_length]; omega))
            have HRf := Lib.hid (HRe.out.below hb14)
            clear hdv hb14 hcm
            go_wp2_with fail
            refine HCm.out.mono ?_
            rintro e w15 ⟨rfl, k, rfl⟩
            have HRg := Lib.hid (HRf.out.below (below_dn (Below.refl _ _) k))
            clear x1 HCm HRf
            rcases HC3.out.2.2 with h | h | h <;> subst h
            · go_wp2_with fail
              refine (stripped_walk lo (A / B) 18 q _ (HRg.out.no) HD18.out.1 (by omega) (by omega) (by omega) (by omega)).mono ?_
              rintro e w23 ⟨rfl, hb23⟩
              go_wp2_with fail
              go_ret2
              exact ⟨_, q, rfl, ⟨HFo.out _ (by have h := HSr.out; simpa using h), HD18.out.1, by omega, by omega⟩, below_chain (HRg.out.b.bl) hb23⟩
            · go_wp2_with fail
              have hbw := fun hs => bit_walk lo (A / B) 0 (w14.drewN k) HRg.out.no hs (by omega) (by omega)
              rw [show (decide ((0 : Int) ≤ 0) && tb (A / B) (Int.toNat 0)) = bt from by rw [← HBt.out]; rfl] at hbw
              refine (hbw (by have := HBn.out; rw [toL_length]; omega)).mono ?_
              rintro e w16 ⟨rfl, hw⟩
              have h := hw.symm
              subst h
              clear hw hbw
              cases bt
              · go_wp2_with fail
                refine (stripped_walk lo (A / B) 18 q _ (HRg.out.no) HD18.out.1 (by omega) (by omega) (by omega) (by omega)).mono ?_
                rintro e w23 ⟨rfl, hb23⟩
                go_wp2_with fail
                go_ret2
                exact ⟨_, q, rfl, ⟨HFo.out _ (by have h := HSr.out; simpa using h), HD18.out.1, by omega, by omega⟩, below_chain (HRg.out.b.bl) hb23⟩
              · go_wp2_with fail
                refine (stripped_walk hi (A / B + 1) 18 q _ (HRg.out.nn) HD18.out.2 (by omega) (by omega) (by omega) (by omega)).mono ?_
                rintro e w23 ⟨rfl, hb23⟩
                go_wp2_with fail
                go_ret2
                exact ⟨_, q, rfl, ⟨HFo.out _ (by have h := HSr.out; simpa using h), HD18.out.2, by omega, by omega⟩, below_chain (HRg.out.b.bl) hb23⟩
            · go_wp2_with fail
              refine (stripped_walk hi (A / B + 1) 18 q _ (HRg.out.nn) HD18.out.2 (by omega) (by omega) (by omega) (by omega)).mono ?_
              rintro e w23 ⟨rfl, hb23⟩
              go_wp2_with fail
              go_ret2
              exact ⟨_, q, rfl, ⟨HFo.out _ (by have h := HSr.out; simpa using h), HD18.out.2, by omega, by omega⟩, below_chain (HRg.out.b.bl) hb23⟩
end Go.Proofs.YtibjogbalmbeeaaGreatDoor
