/- Walks of round: long, sticky, Quotient (printed by gen_quo.py). -/
import Derived.Test.YtibjogbalmbeeaaGreatDoorU15
import Derived.Test.YtibjogbalmbeeaaGreatDoorU12
import Derived.Test.YtibjogbalmbeeaaGreatDoorU06
import Derived.Deep.RegionHeld3

namespace Go.Proofs.YtibjogbalmbeeaaGreatDoor
open Go.RowKit

/-- 2 q, and one more if something is left. -/
def stk (q r : Nat) : Nat := 2 * q + if r = 0 then 0 else 1

set_option maxRecDepth 100000 in
theorem sticky_walk (v u : Value) (q r : Nat) (w : World) (h : NatAt w v q) (g : NatAt w u r) (hb : blen q ≤ 500000) :
    Calls Tryz.prog 210 #[v, u] w fun e w' => ∃ s, e = .returned s ∧ NatAt w' s (stk q r) ∧ Below w.heap.size w w' := by
  have H := Lib.hid h
  have hb2 : blen (q * 2 ^ 1 + 1) ≤ blen q + 1 := by
    refine blen_le.2 ?_
    have h1 := blen_hi q
    rw [Nat.pow_succ]
    omega
  have HB := Lib.hid (show blen q + 1 ≤ 524288 ∧ blen (q * 2 ^ 1 + 1) ≤ 524288 from ⟨by omega, by omega⟩)
  obtain ⟨B, cb, rfl, hcb, hrb⟩ := g
  have hz0 := toL_length_zero r
  clear hrb hcb hb2 hb h
  go_enter Tryz.func210, Tryz.ntmps210
  go_wp2_with fail
  refine (shl_walk v q 1 w H.out (by omega) (by have := HB.out.1; omega)).mono ?_
  rintro e w1 ⟨s1, rfl, hn1, hb1⟩
  rw [show (1 : Int).toNat = 1 from rfl] at hn1
  have HN1 := Lib.hid hn1
  have HW1 := Lib.hid hb1
  obtain ⟨A1, c1, rfl, hc1, hr1⟩ := hn1
  obtain ⟨n1, hn1⟩ : ∃ n, (toL (q * 2 ^ 1)).length = n := ⟨_, rfl⟩
  rw [hn1] at HN1 ⊢
  clear hc1 hr1 hb1 hn1
  by_cases hz : r = 0
  · have hl : ¬ (0 : Int) < ((toL r).length : Int) := by have := hz0.2 hz; omega
    have HF := Lib.hid (show q * 2 ^ 1 = stk q r by unfold stk; rw [if_pos hz]; omega)
    clear hz hz0
    go_wp2
    go_ret
    exact ⟨_, rfl, by rw [← HF.out]; exact HN1.out, HW1.out⟩
  · have hl : (0 : Int) < ((toL r).length : Int) := by
      have : (toL r).length ≠ 0 := fun e => hz (hz0.1 e)
      omega
    have HF := Lib.hid (show q * 2 ^ 1 + 1 = stk q r by unfold stk; rw [if_neg hz]; omega)
    clear hz hz0
    go_wp2_with fail
    refine (word_walk 1 w1 (by rw [W64_num]; omega)).mono ?_
    rintro e w2 ⟨s2, rfl, hn2, hb2⟩
    have HN2 := Lib.hid hn2
    have HW2 := Lib.hid hb2
    obtain ⟨A2, c2, rfl, hc2, hr2⟩ := hn2
    obtain ⟨n2, hn2⟩ : ∃ n, (toL 1).length = n := ⟨_, rfl⟩
    rw [hn2] at HN2 ⊢
    clear hc2 hr2 hb2 hn2
    go_wp2_with fail
    refine (add_walk _ _ (q * 2 ^ 1) 1 w2 (HN1.out.below HW2.out) HN2.out HB.out.2).mono ?_
    rintro e w3 ⟨s3, rfl, hn3, hb3⟩
    have HN3 := Lib.hid hn3
    have HW3 := Lib.hid hb3
    obtain ⟨A3, c3, rfl, hc3, hr3⟩ := hn3
    clear hc3 hr3 hb3
    go_wp2
    go_ret
    exact ⟨_, rfl, by rw [← HF.out]; exact HN3.out, below_chain (below_chain HW1.out HW2.out) HW3.out⟩

set_option maxRecDepth 100000 in
theorem long_no (s : Value) (a : Nat) (x : Int) (w : World) (h : NatAt w s a) (hs : (toL a).length ≤ 4096) :
    Calls Tryz.prog 207 #[.agg #[.bool false, s, .int .i64 x]] w fun e w' => e = .returned (.bool false) ∧ Below w.heap.size w w' := by
  obtain ⟨A, ca, rfl, hca, hra⟩ := h
  have hl : ¬ (4096 : Int) < ((toL a).length : Int) := by omega
  clear hra hca hs
  go_enter Tryz.func207, Tryz.ntmps207
  go_wp2
  go_ret
  exact ⟨by simp, below_alloc' _ _⟩

/-- What stands in memory while a quotient is sought. -/
structure QuS (w w' : World) (va vb : Value) (xa xb : Int) (a b : Nat) (f : Fm) : Prop where
  a0 : w'.cell? ⟨w.heap.size, 0, none⟩ = some (.bool false)
  a1 : w'.cell? ⟨w.heap.size, 1, none⟩ = some va
  a2 : w'.cell? ⟨w.heap.size, 2, none⟩ = some (.int .i64 xa)
  b0 : w'.cell? ⟨w.heap.size + 1, 0, none⟩ = some (.bool false)
  b1 : w'.cell? ⟨w.heap.size + 1, 1, none⟩ = some vb
  b2 : w'.cell? ⟨w.heap.size + 1, 2, none⟩ = some (.int .i64 xb)
  na : NatAt w' va a
  nb : NatAt w' vb b
  ht : Tab64 w'
  bl : Below w.heap.size w w'
theorem QuS.below {w w1 w2 : World} {va vb : Value} {xa xb : Int} {a b : Nat} {f : Fm} (h : QuS w w1 va vb xa xb a b f) (hb : Below w1.heap.size w1 w2) : QuS w w2 va vb xa xb a b f :=
  ⟨cell_kept hb h.a0, cell_kept hb h.a1, cell_kept hb h.a2, cell_kept hb h.b0, cell_kept hb h.b1, cell_kept hb h.b2, h.na.below hb, h.nb.below hb, h.ht.below hb, below_chain h.bl hb⟩
structure QuT (w w' : World) (va vb : Value) (xa xb : Int) (a b : Nat) (f : Fm) (g : Nat) : Prop where
  q : QuS w w' va vb xa xb a b f
  f0 : w'.cell? ⟨g, 0, none⟩ = some (.int .i64 f.P)
  f1 : w'.cell? ⟨g, 1, none⟩ = some (.int .i64 f.L)
  f2 : w'.cell? ⟨g, 2, none⟩ = some (.int .i64 f.S)
theorem QuT.below {w w1 w2 : World} {va vb : Value} {xa xb : Int} {a b : Nat} {f : Fm} {g : Nat} (h : QuT w w1 va vb xa xb a b f g) (hb : Below w1.heap.size w1 w2) : QuT w w2 va vb xa xb a b f g :=
  ⟨h.q.below hb, cell_kept hb h.f0, cell_kept hb h.f1, cell_kept hb h.f2⟩
structure QuU (w w' : World) (va vb : Value) (xa xb : Int) (a b : Nat) (f : Fm) (g : Nat) (vq vr : Value) (q r : Nat) : Prop where
  t : QuT w w' va vb xa xb a b f g
  nq : NatAt w' vq q
  nr : NatAt w' vr r
theorem QuU.below {w w1 w2 : World} {va vb : Value} {xa xb : Int} {a b : Nat} {f : Fm} {g : Nat} {vq vr : Value} {q r : Nat} (h : QuU w w1 va vb xa xb a b f g vq vr q r) (hb : Below w1.heap.size w1 w2) : QuU w w2 va vb xa xb a b f g vq vr q r :=
  ⟨h.t.below hb, h.nq.below hb, h.nr.below hb⟩

set_option maxRecDepth 100000 in
set_option maxHeartbeats 2000000 in
theorem quotient_walk_S (s t : Value) (a b xa xb : Nat) (w : World) (h : NatAt w s a) (g : NatAt w t b) (ht : Tab64 w) (ha : a % 2 = 1) (hb : b % 2 = 1) (hsa : blen a ≤ 100000) (hsb : blen b ≤ 100000) (hxa : xa ≤ 500000) (hxb : xb ≤ 500000) :
    Calls Tryz.prog 185 #[.int .i64 32, .agg #[.bool false, s, .int .i64 (xa : Int)], .agg #[.bool false, t, .int .i64 (xb : Int)]] w fun e w' => ∃ p : Nat, e = .returned (.tuple #[.int .u64 (p : Int), .int .i64 0]) ∧ IsPat fmS (a * 2 ^ xa) (b * 2 ^ xb) p ∧ p ≤ fmS.inf ∧ Below w.heap.size w w' := by
  have ha0 : a ≠ 0 := by intro e; rw [e] at ha; omega
  have hb0 : b ≠ 0 := by intro e; rw [e] at hb; omega
  have hla : (toL a).length ≤ 4096 := by rw [toL_length]; omega
  have hlb : (toL b).length ≤ 4096 := by rw [toL_length]; omega
  have hla0 : (toL a).length ≠ 0 := fun e => ha0 ((toL_length_zero a).1 e)
  have hlb0 : (toL b).length ≠ 0 := fun e => hb0 ((toL_length_zero b).1 e)
  obtain ⟨sh, hsh⟩ : ∃ sh : Nat, (sh : Int) = max 0 (24 + 3 + (blen b : Int) - (blen a : Int)) := ⟨(max 0 (24 + 3 + (blen b : Int) - (blen a : Int))).toNat, by omega⟩
  have hsh2 : 24 + 3 + blen b ≤ blen a + sh := by omega
  have hshb : sh ≤ 200000 := by omega
  have hpat := quo_isPat (f := fmS) (.inl rfl) a b xa xb sh hb0 hsh2 ha0
  have hqn : stk (a * 2 ^ sh / b) (a * 2 ^ sh % b) ≠ 0 := by
    have h1 : 1 ≤ a * 2 ^ sh / b := by
      rw [Nat.le_div_iff_mul_le (by omega), Nat.one_mul]
      have e1 := blen_hi b
      have e2 := blen_lo ha0
      have e3 := blen_pos ha0
      have e4 : 2 ^ (blen a - 1) * 2 ^ sh ≤ a * 2 ^ sh := Nat.mul_le_mul_right _ e2
      rw [← Nat.pow_add] at e4
      have e5 : 2 ^ blen b ≤ 2 ^ (blen a - 1 + sh) := Nat.pow_le_pow_right (by omega) (by omega)
      omega
    unfold stk; omega
  have hxl : blen (a * 2 ^ sh) ≤ 300000 := by rw [blen_mul_pow ha0]; omega
  have hql : blen (a * 2 ^ sh / b) ≤ 300000 := Nat.le_trans (blen_mono (Nat.div_le_self _ _)) hxl
  have hsl : blen (stk (a * 2 ^ sh / b) (a * 2 ^ sh % b)) ≤ 500000 := by
    have h0 : blen (stk (a * 2 ^ sh / b) (a * 2 ^ sh % b)) ≤ blen (a * 2 ^ sh / b) + 1 := by
      refine blen_le.2 ?_
      have h1 := blen_hi (a * 2 ^ sh / b)
      rw [Nat.pow_succ]
      unfold stk
      split <;> omega
    omega
  have HM := Lib.hid (show a ≠ 0 ∧ b ≠ 0 ∧ (toL a).length ≤ 4096 ∧ (toL b).length ≤ 4096 ∧ a % 2 = 1 ∧ b % 2 = 1 ∧ xa ≤ 500000 ∧ xb ≤ 500000 ∧ blen a ≤ 100000 ∧ blen b ≤ 100000 ∧ sh ≤ 200000 from ⟨ha0, hb0, hla, hlb, ha, hb, hxa, hxb, hsa, hsb, hshb⟩)
  have HQ := Lib.hid (show blen (a * 2 ^ sh) ≤ 300000 ∧ blen (a * 2 ^ sh / b) ≤ 300000 ∧ blen (stk (a * 2 ^ sh / b) (a * 2 ^ sh % b)) ≤ 500000 ∧ stk (a * 2 ^ sh / b) (a * 2 ^ sh % b) ≠ 0 from ⟨hxl, hql, hsl, hqn⟩)
  have HP := Lib.hid hpat
  have H := Lib.hid h
  have G := Lib.hid g
  have HT := Lib.hid ht
  have HBg := Lib.hid (fun (W : World) (v : Value) (z : Nat) (h : ∃ q, NatAt W v q ∧ blen q = z ∧ (toL q).length ≤ 4096) => show Calls Tryz.prog 75 #[v] W fun e w' => e = .returned (.int .i64 (z : Int)) ∧ Below W.heap.size W w' from by
    obtain ⟨q, ⟨A, c, rfl, hc, hr⟩, rfl, hq⟩ := h
    have hbits := bits_walk A (toL q).length c (toL q) W rfl hr (Wd_toL q) hc (by omega)
    rw [vl_toL] at hbits
    refine hbits.mono ?_
    rintro e w' ⟨rfl, rfl⟩
    exact ⟨rfl, Below.refl _ _⟩)
  obtain ⟨A, ca, rfl, hca, hra⟩ := h
  obtain ⟨B, cb, rfl, hcb, hrb⟩ := g
  obtain ⟨la, hla2⟩ : ∃ la, (toL a).length = la := ⟨_, rfl⟩
  obtain ⟨lb, hlb2⟩ : ∃ lb, (toL b).length = lb := ⟨_, rfl⟩
  rw [hla2] at H hla0 ⊢
  rw [hlb2] at G hlb0 ⊢
  have hl1 : ((la : Int) == 0) = false := by rw [beq_eq_false_iff_ne]; omega
  have hl2 : ((lb : Int) == 0) = false := by rw [beq_eq_false_iff_ne]; omega
  have hmax := hsh.symm
  obtain ⟨ba, hba⟩ : ∃ ba, blen a = ba := ⟨_, rfl⟩
  obtain ⟨bb, hbb⟩ : ∃ bb, blen b = bb := ⟨_, rfl⟩
  have HTa := Lib.hid (show blen a = ba ∧ (toL a).length ≤ 4096 from ⟨hba, hla⟩)
  have HTb := Lib.hid (show blen b = bb ∧ (toL b).length ≤ 4096 from ⟨hbb, hlb⟩)
  rw [hba, hbb] at hmax
  have p1 : IntKind.i64.wrap (27 + (bb : Int)) = 27 + (bb : Int) := by rw [IntKind.wrap_i64]; omega
  have p2 : IntKind.i64.wrap (27 + (bb : Int) - (ba : Int)) = 27 + (bb : Int) - (ba : Int) := by rw [IntKind.wrap_i64]; omega
  have p3 : max 0 (IntKind.i64.wrap (IntKind.i64.wrap (IntKind.i64.wrap 27 + (bb : Int)) - (ba : Int))) = (sh : Int) := by
    rw [show IntKind.i64.wrap 27 = 27 from rfl, p1, p2]; omega
  obtain ⟨xx, hxx⟩ : ∃ xx : Int, (xa : Int) - (xb : Int) - (sh : Int) - 1 = xx := ⟨_, rfl⟩
  have p4 : IntKind.i64.wrap ((xa : Int) - (xb : Int)) = (xa : Int) - (xb : Int) := by rw [IntKind.wrap_i64]; omega
  have p5 : IntKind.i64.wrap ((xa : Int) - (xb : Int) - (sh : Int)) = (xa : Int) - (xb : Int) - (sh : Int) := by rw [IntKind.wrap_i64]; omega
  have p6 : IntKind.i64.wrap ((xa : Int) - (xb : Int) - (sh : Int) - 1) = xx := by rw [IntKind.wrap_i64]; omega
  have p7 : IntKind.i64.wrap (IntKind.i64.wrap (IntKind.i64.wrap ((xa : Int) - (xb : Int)) - (sh : Int)) - 1) = xx := by rw [p4, p5, p6]
  have HX := Lib.hid (show -2000000 ≤ xx ∧ xx ≤ 2000000 by omega)
  rw [hxx] at HP
  have W0 := below_chain (below_alloc' w (.cells #[.bool false, .slice A la ca, .int .i64 (xa : Int)] 86)) (below_alloc' _ (.cells #[.bool false, .slice B lb cb, .int .i64 (xb : Int)] 86))
  have K0 : QuS w ((w.alloc (.cells #[.bool false, .slice A la ca, .int .i64 (xa : Int)] 86)).alloc (.cells #[.bool false, .slice B lb cb, .int .i64 (xb : Int)] 86)) (.slice A la ca) (.slice B lb cb) xa xb a b fmS :=
    ⟨by simp [go_sem], by simp [go_sem], by simp [go_sem], by simp [go_sem], by simp [go_sem], by simp [go_sem], H.out.below W0, G.out.below W0, HT.out.below W0, W0⟩
  have HK0 := Lib.hid K0
  clear hra hrb hca hcb hla2 hlb2 hba hbb hsh hsh2 hshb hmax hpat hqn hxl hql hsl hla hlb hla0 hlb0 ha0 hb0 ha hb hsa hsb hxa hxb hxx ht W0 K0 H G HT
  go_enter Tryz.func185, Tryz.ntmps185
  go_wp2_with fail
  obtain ⟨w1, hw1⟩ : ∃ w1, ((w.alloc (.cells #[.bool false, .slice A la ca, .int .i64 (xa : Int)] 86)).alloc (.cells #[.bool false, .slice B lb cb, .int .i64 (xb : Int)] 86)) = w1 := ⟨_, rfl⟩
  rw [hw1] at HK0 ⊢
  clear hw1
  refine (rof_single w1).mono ?_
  rintro e w2 ⟨rfl, hb2⟩
  rw [show fmS.val = .agg #[.int .i64 24, .int .i64 (-149), .int .i64 31] from rfl]
  have HK2 := Lib.hid (HK0.out.below (below_chain hb2 (below_alloc' w2 (.cells #[.int .i64 24, .int .i64 (-149), .int .i64 31] 256))))
  have F2 : Box3 (w2.alloc (.cells #[.int .i64 24, .int .i64 (-149), .int .i64 31] 256)) w2.heap.size (.int .i64 24) (.int .i64 (-149)) (.int .i64 31) := ⟨by simp, by simp, by simp, by simp, by simp, by simp, by simp⟩
  have HF2 := Lib.hid F2
  have a0 := HK2.out.a0
  have a1 := HK2.out.a1
  have a2 := HK2.out.a2
  obtain ⟨f0, f1, f2, _⟩ := F2
  clear hb2 HK0
  go_wp2_with fail
  clear f0 f1 f2 a0 a1 a2
  obtain ⟨w3, hw3⟩ : ∃ w3, w2.alloc (.cells #[.int .i64 24, .int .i64 (-149), .int .i64 31] 256) = w3 := ⟨_, rfl⟩
  obtain ⟨g, hg⟩ : ∃ g, w2.heap.size = g := ⟨_, rfl⟩
  rw [hw3] at HK2 HF2 ⊢
  rw [hg] at HF2 ⊢
  clear hw3 hg
  refine (dform_walk false _ a (xa : Int) w3 HK2.out.na (by have := HM.out; omega) (by simp) (by omega) (by have := HM.out; omega) (fun _ => HM.out.2.2.2.2.1) (fun e => absurd e HM.out.1)).mono ?_
  rintro e w4 ⟨rfl, hb4⟩
  have HK4 := Lib.hid (HK2.out.below hb4)
  have HF4 := Lib.hid (HF2.out.below hb4)
  clear hb4 HK2 HF2
  have b0 := HK4.out.b0
  have b1 := HK4.out.b1
  have b2 := HK4.out.b2
  go_wp2_with fail
  refine (dform_walk false _ b (xb : Int) w4 HK4.out.nb (by have := HM.out; omega) (by simp) (by omega) (by have := HM.out; omega) (fun _ => HM.out.2.2.2.2.2.1) (fun e => absurd e HM.out.2.1)).mono ?_
  rintro e w5 ⟨rfl, hb5⟩
  have HK5 := Lib.hid (HK4.out.below hb5)
  have HF5 := Lib.hid (HF4.out.below hb5)
  clear hb5 HK4 HF4 b0 b1 b2
  have b1 := HK5.out.b1
  have a0 := HK5.out.a0
  have a1 := HK5.out.a1
  have a2 := HK5.out.a2
  go_wp2_with fail
  refine (long_no _ a (xa : Int) w5 HK5.out.na HM.out.2.2.1).mono ?_
  rintro e w6 ⟨rfl, hb6⟩
  have HK6 := Lib.hid (HK5.out.below hb6)
  have HF6 := Lib.hid (HF5.out.below hb6)
  clear hb6 HK5 HF5 b1 a0 a1 a2
  have b0 := HK6.out.b0
  have b1 := HK6.out.b1
  have b2 := HK6.out.b2
  go_wp2_with fail
  refine (long_no _ b (xb : Int) w6 HK6.out.nb HM.out.2.2.2.1).mono ?_
  rintro e w7 ⟨rfl, hb7⟩
  have HK7 := Lib.hid (HK6.out.below hb7)
  have HF7 := Lib.hid (HF6.out.below hb7)
  clear hb7 HK6 HF6 b0 b1 b2
  have a1 := HK7.out.a1
  have hKd : QuT w w7.drew (.slice A la ca) (.slice B lb cb) xa xb a b fmS g := ⟨HK7.out.below (below_draw' w7), (HF7.out.below (below_draw' w7)).1, (HF7.out.below (below_draw' w7)).2.1, (HF7.out.below (below_draw' w7)).2.2.1⟩
  have HKd := Lib.hid hKd
  have HK7' := Lib.hid (show QuT w w7 (.slice A la ca) (.slice B lb cb) xa xb a b fmS g from ⟨HK7.out, HF7.out.1, HF7.out.2.1, HF7.out.2.2.1⟩)
  have a1 := HK7.out.a1
  clear hKd HF7 HK7
  go_wp2_with fail
  go_region_held3 (fun w' => w'.cell? ⟨w.heap.size, 1, none⟩ = some (.slice A la ca) ∧ w'.cell? ⟨w.heap.size + 1, 1, none⟩ = some (.slice B lb cb) ∧ w'.cell? ⟨g, 0, none⟩ = some (.int .i64 24) ∧ Hid (QuT w w' (.slice A la ca) (.slice B lb cb) xa xb a b fmS g))
    (first | exact ⟨HKd.out.q.a1, HKd.out.q.b1, HKd.out.f0, HKd⟩ | (go_split_ands; (have K5 : QuT w w8 (.slice A la ca) (.slice B lb cb) xa xb a b fmS g := QuT.below (Hid.out (by assumption)) hb8); exact ⟨K5.q.a1, K5.q.b1, K5.f0, Lib.hid K5⟩))
    (first | (go_split_ands; rename_i hk; go_at_call 75; refine (HBg.out _ _ _ (by first | exact ⟨_, hk.out.q.na, HTa.out⟩ | exact ⟨_, hk.out.q.nb, HTb.out⟩)).mono ?_; rintro e w8 ⟨rfl, hb8⟩))
  have HK8 : Hid (QuT w w8 (.slice A la ca) (.slice B lb cb) xa xb a b fmS g) := Lib.hid (by go_split_ands; exact QuT.below (Hid.out (by assumption)) hb8)
  clear hb8 HKd HK7' p1 p2 p3 HTa HTb HBg
  have a1 := HK8.out.q.a1
  go_wp2_with fail
  refine (shl_walk _ a (sh : Int) w8 HK8.out.q.na (by omega) (by have := HM.out; omega)).mono ?_
  rintro e w9 ⟨vx, rfl, hx9, hb9⟩
  rw [Int.toNat_natCast] at hx9
  have HX9 := Lib.hid hx9
  have HK9 := Lib.hid (HK8.out.below hb9)
  obtain ⟨Ax, cx, rfl, hcx, hrx⟩ := hx9
  obtain ⟨x, hx⟩ : ∃ x, a * 2 ^ sh = x := ⟨_, rfl⟩
  rw [hx] at HX9 HQ HP ⊢
  obtain ⟨nx, hnx⟩ : ∃ n, (toL x).length = n := ⟨_, rfl⟩
  have HLx := Lib.hid (show (toL x).length ≤ 8192 by rw [toL_length]; have := HQ.out.1; omega)
  rw [hnx] at HX9 ⊢
  clear hb9 HK8 a1 hcx hrx hx hnx
  have b1 := HK9.out.q.b1
  go_wp2_with fail
  refine (quorem_walk _ _ x b w9 HX9.out HK9.out.q.nb HM.out.2.1 HLx.out (by have := HM.out; omega)).mono ?_
  rintro e w10 ⟨vq, vr, rfl, hq10, hr10, hb10⟩
  obtain ⟨q, hq⟩ : ∃ q, x / b = q := ⟨_, rfl⟩
  obtain ⟨r, hr⟩ : ∃ r, x % b = r := ⟨_, rfl⟩
  rw [hq] at hq10 HQ
  rw [hr] at hr10 HQ
  have HPq : Hid (IsPat fmS (a * 2 ^ xa) (b * 2 ^ xb) (rsize fmS (stk q r) xx)) := Lib.hid (by unfold stk; rw [← hq, ← hr]; exact HP.out)
  have HKq := Lib.hid (show QuU w w10.drew (.slice A la ca) (.slice B lb cb) xa xb a b fmS g vq vr q r from QuU.below ⟨HK9.out.below hb10, hq10, hr10⟩ (below_draw' _))
  have HKe := Lib.hid (HK9.out.below hb10)
  obtain ⟨z, hz⟩ : ∃ z, rsize fmS (stk q r) xx = z := ⟨_, rfl⟩
  have hzl : z ≤ fmS.inf := by rw [← hz]; exact rsize_le _ _ _
  rw [hz] at HPq
  have HZl := Lib.hid hzl
  have HSize := Lib.hid (fun (W : World) (v : Value) (h : NatAt W v (stk q r)) (ht : Tab64 W) => show Calls Tryz.prog 209 #[.agg #[.int .i64 24, .int .i64 (-149), .int .i64 31], v, .int .i64 xx] W fun e w' => e = .returned (.int .u64 (z : Int)) ∧ Below W.heap.size W w' from by
    rw [← hz]; exact size_walk_S v (stk q r) xx W h ht HQ.out.2.2.2 HQ.out.2.2.1 HX.out.1 HX.out.2)
  have HSgn := Lib.hid (fun (W : World) => show Calls Tryz.prog 208 #[.agg #[.int .i64 24, .int .i64 (-149), .int .i64 31], .bool false, .int .u64 (z : Int)] W fun e w' => e = .returned (.int .u64 (z : Int)) ∧ Below W.heap.size W w' from by
    have h := signed_walk fmS (.inl rfl) false z (Nat.lt_of_le_of_lt hzl (inf_lt _ (.inl rfl))) W
    rw [show sgn fmS false z = z by simp [sgn]] at h
    exact h)
  clear hb10 HK9 b1 hq hr hq10 hr10 HP HX9 HLx hz hzl
  go_wp2_with fail
  go_region_held3 (fun w' => w'.cell? ⟨g, 0, none⟩ = some (.int .i64 24) ∧ w'.cell? ⟨g, 1, none⟩ = some (.int .i64 (-149)) ∧ w'.cell? ⟨g, 2, none⟩ = some (.int .i64 31) ∧ w'.cell? ⟨w.heap.size, 0, none⟩ = some (.bool false) ∧ w'.cell? ⟨w.heap.size + 1, 0, none⟩ = some (.bool false) ∧ w'.cell? ⟨w.heap.size, 2, none⟩ = some (.int .i64 (xa : Int)) ∧ w'.cell? ⟨w.heap.size + 1, 2, none⟩ = some (.int .i64 (xb : Int)) ∧ Hid (QuU w w' (.slice A la ca) (.slice B lb cb) xa xb a b fmS g vq vr q r))
    (first | exact ⟨HKq.out.t.f0, HKq.out.t.f1, HKq.out.t.f2, HKq.out.t.q.a0, HKq.out.t.q.b0, HKq.out.t.q.a2, HKq.out.t.q.b2, HKq⟩ | (go_split_ands; (have K5 : QuU w w11 (.slice A la ca) (.slice B lb cb) xa xb a b fmS g vq vr q r := QuU.below (Hid.out (by assumption)) hb11); exact ⟨K5.t.f0, K5.t.f1, K5.t.f2, K5.t.q.a0, K5.t.q.b0, K5.t.q.a2, K5.t.q.b2, Lib.hid K5⟩))
    (first | (go_split_ands; rename_i hk; go_at_call 210; refine (sticky_walk _ _ q r _ hk.out.nq hk.out.nr (by have := HQ.out; omega)).mono ?_; rintro e w11 ⟨s11, rfl, hn11, hb11⟩; (have HN11 := Lib.hid hn11); clear hn11) | (go_split_ands; rename_i hk; go_at_call 209; (try rw [p7]); refine (HSize.out _ _ HN11.out hk.out.t.q.ht).mono ?_; rintro e w11 ⟨rfl, hb11⟩) | (go_split_ands; go_at_call 208; refine (HSgn.out _).mono ?_; rintro e w11 ⟨rfl, hb11⟩))
  have HK11 : Hid (QuU w w11 (.slice A la ca) (.slice B lb cb) xa xb a b fmS g vq vr q r) := Lib.hid (by go_split_ands; exact QuU.below (Hid.out (by assumption)) hb11)
  go_wp2
  go_ret2
  exact ⟨z, rfl, HPq.out, HZl.out, HK11.out.t.q.bl⟩

set_option maxRecDepth 100000 in
set_option maxHeartbeats 2000000 in
theorem quotient_walk_D (s t : Value) (a b xa xb : Nat) (w : World) (h : NatAt w s a) (g : NatAt w t b) (ht : Tab64 w) (ha : a % 2 = 1) (hb : b % 2 = 1) (hsa : blen a ≤ 100000) (hsb : blen b ≤ 100000) (hxa : xa ≤ 500000) (hxb : xb ≤ 500000) :
    Calls Tryz.prog 185 #[.int .i64 64, .agg #[.bool false, s, .int .i64 (xa : Int)], .agg #[.bool false, t, .int .i64 (xb : Int)]] w fun e w' => ∃ p : Nat, e = .returned (.tuple #[.int .u64 (p : Int), .int .i64 0]) ∧ IsPat fmD (a * 2 ^ xa) (b * 2 ^ xb) p ∧ p ≤ fmD.inf ∧ Below w.heap.size w w' := by
  have ha0 : a ≠ 0 := by intro e; rw [e] at ha; omega
  have hb0 : b ≠ 0 := by intro e; rw [e] at hb; omega
  have hla : (toL a).length ≤ 4096 := by rw [toL_length]; omega
  have hlb : (toL b).length ≤ 4096 := by rw [toL_length]; omega
  have hla0 : (toL a).length ≠ 0 := fun e => ha0 ((toL_length_zero a).1 e)
  have hlb0 : (toL b).length ≠ 0 := fun e => hb0 ((toL_length_zero b).1 e)
  obtain ⟨sh, hsh⟩ : ∃ sh : Nat, (sh : Int) = max 0 (53 + 3 + (blen b : Int) - (blen a : Int)) := ⟨(max 0 (53 + 3 + (blen b : Int) - (blen a : Int))).toNat, by omega⟩
  have hsh2 : 53 + 3 + blen b ≤ blen a + sh := by omega
  have hshb : sh ≤ 200000 := by omega
  have hpat := quo_isPat (f := fmD) (.inr rfl) a b xa xb sh hb0 hsh2 ha0
  have hqn : stk (a * 2 ^ sh / b) (a * 2 ^ sh % b) ≠ 0 := by
    have h1 : 1 ≤ a * 2 ^ sh / b := by
      rw [Nat.le_div_iff_mul_le (by omega), Nat.one_mul]
      have e1 := blen_hi b
      have e2 := blen_lo ha0
      have e3 := blen_pos ha0
      have e4 : 2 ^ (blen a - 1) * 2 ^ sh ≤ a * 2 ^ sh := Nat.mul_le_mul_right _ e2
      rw [← Nat.pow_add] at e4
      have e5 : 2 ^ blen b ≤ 2 ^ (blen a - 1 + sh) := Nat.pow_le_pow_right (by omega) (by omega)
      omega
    unfold stk; omega
  have hxl : blen (a * 2 ^ sh) ≤ 300000 := by rw [blen_mul_pow ha0]; omega
  have hql : blen (a * 2 ^ sh / b) ≤ 300000 := Nat.le_trans (blen_mono (Nat.div_le_self _ _)) hxl
  have hsl : blen (stk (a * 2 ^ sh / b) (a * 2 ^ sh % b)) ≤ 500000 := by
    have h0 : blen (stk (a * 2 ^ sh / b) (a * 2 ^ sh % b)) ≤ blen (a * 2 ^ sh / b) + 1 := by
      refine blen_le.2 ?_
      have h1 := blen_hi (a * 2 ^ sh / b)
      rw [Nat.pow_succ]
      unfold stk
      split <;> omega
    omega
  have HM := Lib.hid (show a ≠ 0 ∧ b ≠ 0 ∧ (toL a).length ≤ 4096 ∧ (toL b).length ≤ 4096 ∧ a % 2 = 1 ∧ b % 2 = 1 ∧ xa ≤ 500000 ∧ xb ≤ 500000 ∧ blen a ≤ 100000 ∧ blen b ≤ 100000 ∧ sh ≤ 200000 from ⟨ha0, hb0, hla, hlb, ha, hb, hxa, hxb, hsa, hsb, hshb⟩)
  have HQ := Lib.hid (show blen (a * 2 ^ sh) ≤ 300000 ∧ blen (a * 2 ^ sh / b) ≤ 300000 ∧ blen (stk (a * 2 ^ sh / b) (a * 2 ^ sh % b)) ≤ 500000 ∧ stk (a * 2 ^ sh / b) (a * 2 ^ sh % b) ≠ 0 from ⟨hxl, hql, hsl, hqn⟩)
  have HP := Lib.hid hpat
  have H := Lib.hid h
  have G := Lib.hid g
  have HT := Lib.hid ht
  have HBg := Lib.hid (fun (W : World) (v : Value) (z : Nat) (h : ∃ q, NatAt W v q ∧ blen q = z ∧ (toL q).length ≤ 4096) => show Calls Tryz.prog 75 #[v] W fun e w' => e = .returned (.int .i64 (z : Int)) ∧ Below W.heap.size W w' from by
    obtain ⟨q, ⟨A, c, rfl, hc, hr⟩, rfl, hq⟩ := h
    have hbits := bits_walk A (toL q).length c (toL q) W rfl hr (Wd_toL q) hc (by omega)
    rw [vl_toL] at hbits
    refine hbits.mono ?_
    rintro e w' ⟨rfl, rfl⟩
    exact ⟨rfl, Below.refl _ _⟩)
  obtain ⟨A, ca, rfl, hca, hra⟩ := h
  obtain ⟨B, cb, rfl, hcb, hrb⟩ := g
  obtain ⟨la, hla2⟩ : ∃ la, (toL a).length = la := ⟨_, rfl⟩
  obtain ⟨lb, hlb2⟩ : ∃ lb, (toL b).length = lb := ⟨_, rfl⟩
  rw [hla2] at H hla0 ⊢
  rw [hlb2] at G hlb0 ⊢
  have hl1 : ((la : Int) == 0) = false := by rw [beq_eq_false_iff_ne]; omega
  have hl2 : ((lb : Int) == 0) = false := by rw [beq_eq_false_iff_ne]; omega
  have hmax := hsh.symm
  obtain ⟨ba, hba⟩ : ∃ ba, blen a = ba := ⟨_, rfl⟩
  obtain ⟨bb, hbb⟩ : ∃ bb, blen b = bb := ⟨_, rfl⟩
  have HTa := Lib.hid (show blen a = ba ∧ (toL a).length ≤ 4096 from ⟨hba, hla⟩)
  have HTb := Lib.hid (show blen b = bb ∧ (toL b).length ≤ 4096 from ⟨hbb, hlb⟩)
  rw [hba, hbb] at hmax
  have p1 : IntKind.i64.wrap (56 + (bb : Int)) = 56 + (bb : Int) := by rw [IntKind.wrap_i64]; omega
  have p2 : IntKind.i64.wrap (56 + (bb : Int) - (ba : Int)) = 56 + (bb : Int) - (ba : Int) := by rw [IntKind.wrap_i64]; omega
  have p3 : max 0 (IntKind.i64.wrap (IntKind.i64.wrap (IntKind.i64.wrap 56 + (bb : Int)) - (ba : Int))) = (sh : Int) := by
    rw [show IntKind.i64.wrap 56 = 56 from rfl, p1, p2]; omega
  obtain ⟨xx, hxx⟩ : ∃ xx : Int, (xa : Int) - (xb : Int) - (sh : Int) - 1 = xx := ⟨_, rfl⟩
  have p4 : IntKind.i64.wrap ((xa : Int) - (xb : Int)) = (xa : Int) - (xb : Int) := by rw [IntKind.wrap_i64]; omega
  have p5 : IntKind.i64.wrap ((xa : Int) - (xb : Int) - (sh : Int)) = (xa : Int) - (xb : Int) - (sh : Int) := by rw [IntKind.wrap_i64]; omega
  have p6 : IntKind.i64.wrap ((xa : Int) - (xb : Int) - (sh : Int) - 1) = xx := by rw [IntKind.wrap_i64]; omega
  have p7 : IntKind.i64.wrap (IntKind.i64.wrap (IntKind.i64.wrap ((xa : Int) - (xb : Int)) - (sh : Int)) - 1) = xx := by rw [p4, p5, p6]
  have HX := Lib.hid (show -2000000 ≤ xx ∧ xx ≤ 2000000 by omega)
  rw [hxx] at HP
  have W0 := below_chain (below_alloc' w (.cells #[.bool false, .slice A la ca, .int .i64 (xa : Int)] 86)) (below_alloc' _ (.cells #[.bool false, .slice B lb cb, .int .i64 (xb : Int)] 86))
  have K0 : QuS w ((w.alloc (.cells #[.bool false, .slice A la ca, .int .i64 (xa : Int)] 86)).alloc (.cells #[.bool false, .slice B lb cb, .int .i64 (xb : Int)] 86)) (.slice A la ca) (.slice B lb cb) xa xb a b fmD :=
    ⟨by simp [go_sem], by simp [go_sem], by simp [go_sem], by simp [go_sem], by simp [go_sem], by simp [go_sem], H.out.below W0, G.out.below W0, HT.out.below W0, W0⟩
  have HK0 := Lib.hid K0
  clear hra hrb hca hcb hla2 hlb2 hba hbb hsh hsh2 hshb hmax hpat hqn hxl hql hsl hla hlb hla0 hlb0 ha0 hb0 ha hb hsa hsb hxa hxb hxx ht W0 K0 H G HT
  go_enter Tryz.func185, Tryz.ntmps185
  go_wp2_with fail
  obtain ⟨w1, hw1⟩ : ∃ w1, ((w.alloc (.cells #[.bool false, .slice A la ca, .int .i64 (xa : Int)] 86)).alloc (.cells #[.bool false, .slice B lb cb, .int .i64 (xb : Int)] 86)) = w1 := ⟨_, rfl⟩
  rw [hw1] at HK0 ⊢
  clear hw1
  refine (rof_double w1).mono ?_
  rintro e w2 ⟨rfl, hb2⟩
  rw [show fmD.val = .agg #[.int .i64 53, .int .i64 (-1074), .int .i64 63] from rfl]
  have HK2 := Lib.hid (HK0.out.below (below_chain hb2 (below_alloc' w2 (.cells #[.int .i64 53, .int .i64 (-1074), .int .i64 63] 256))))
  have F2 : Box3 (w2.alloc (.cells #[.int .i64 53, .int .i64 (-1074), .int .i64 63] 256)) w2.heap.size (.int .i64 53) (.int .i64 (-1074)) (.int .i64 63) := ⟨by simp, by simp, by simp, by simp, by simp, by simp, by simp⟩
  have HF2 := Lib.hid F2
  have a0 := HK2.out.a0
  have a1 := HK2.out.a1
  have a2 := HK2.out.a2
  obtain ⟨f0, f1, f2, _⟩ := F2
  clear hb2 HK0
  go_wp2_with fail
  clear f0 f1 f2 a0 a1 a2
  obtain ⟨w3, hw3⟩ : ∃ w3, w2.alloc (.cells #[.int .i64 53, .int .i64 (-1074), .int .i64 63] 256) = w3 := ⟨_, rfl⟩
  obtain ⟨g, hg⟩ : ∃ g, w2.heap.size = g := ⟨_, rfl⟩
  rw [hw3] at HK2 HF2 ⊢
  rw [hg] at HF2 ⊢
  clear hw3 hg
  refine (dform_walk false _ a (xa : Int) w3 HK2.out.na (by have := HM.out; omega) (by simp) (by omega) (by have := HM.out; omega) (fun _ => HM.out.2.2.2.2.1) (fun e => absurd e HM.out.1)).mono ?_
  rintro e w4 ⟨rfl, hb4⟩
  have HK4 := Lib.hid (HK2.out.below hb4)
  have HF4 := Lib.hid (HF2.out.below hb4)
  clear hb4 HK2 HF2
  have b0 := HK4.out.b0
  have b1 := HK4.out.b1
  have b2 := HK4.out.b2
  go_wp2_with fail
  refine (dform_walk false _ b (xb : Int) w4 HK4.out.nb (by have := HM.out; omega) (by simp) (by omega) (by have := HM.out; omega) (fun _ => HM.out.2.2.2.2.2.1) (fun e => absurd e HM.out.2.1)).mono ?_
  rintro e w5 ⟨rfl, hb5⟩
  have HK5 := Lib.hid (HK4.out.below hb5)
  have HF5 := Lib.hid (HF4.out.below hb5)
  clear hb5 HK4 HF4 b0 b1 b2
  have b1 := HK5.out.b1
  have a0 := HK5.out.a0
  have a1 := HK5.out.a1
  have a2 := HK5.out.a2
  go_wp2_with fail
  refine (long_no _ a (xa : Int) w5 HK5.out.na HM.out.2.2.1).mono ?_
  rintro e w6 ⟨rfl, hb6⟩
  have HK6 := Lib.hid (HK5.out.below hb6)
  have HF6 := Lib.hid (HF5.out.below hb6)
  clear hb6 HK5 HF5 b1 a0 a1 a2
  have b0 := HK6.out.b0
  have b1 := HK6.out.b1
  have b2 := HK6.out.b2
  go_wp2_with fail
  refine (long_no _ b (xb : Int) w6 HK6.out.nb HM.out.2.2.2.1).mono ?_
  rintro e w7 ⟨rfl, hb7⟩
  have HK7 := Lib.hid (HK6.out.below hb7)
  have HF7 := Lib.hid (HF6.out.below hb7)
  clear hb7 HK6 HF6 b0 b1 b2
  have a1 := HK7.out.a1
  have hKd : QuT w w7.drew (.slice A la ca) (.slice B lb cb) xa xb a b fmD g := ⟨HK7.out.below (below_draw' w7), (HF7.out.below (below_draw' w7)).1, (HF7.out.below (below_draw' w7)).2.1, (HF7.out.below (below_draw' w7)).2.2.1⟩
  have HKd := Lib.hid hKd
  have HK7' := Lib.hid (show QuT w w7 (.slice A la ca) (.slice B lb cb) xa xb a b fmD g from ⟨HK7.out, HF7.out.1, HF7.out.2.1, HF7.out.2.2.1⟩)
  have a1 := HK7.out.a1
  clear hKd HF7 HK7
  go_wp2_with fail
  go_region_held3 (fun w' => w'.cell? ⟨w.heap.size, 1, none⟩ = some (.slice A la ca) ∧ w'.cell? ⟨w.heap.size + 1, 1, none⟩ = some (.slice B lb cb) ∧ w'.cell? ⟨g, 0, none⟩ = some (.int .i64 53) ∧ Hid (QuT w w' (.slice A la ca) (.slice B lb cb) xa xb a b fmD g))
    (first | exact ⟨HKd.out.q.a1, HKd.out.q.b1, HKd.out.f0, HKd⟩ | (go_split_ands; (have K5 : QuT w w8 (.slice A la ca) (.slice B lb cb) xa xb a b fmD g := QuT.below (Hid.out (by assumption)) hb8); exact ⟨K5.q.a1, K5.q.b1, K5.f0, Lib.hid K5⟩))
    (first | (go_split_ands; rename_i hk; go_at_call 75; refine (HBg.out _ _ _ (by first | exact ⟨_, hk.out.q.na, HTa.out⟩ | exact ⟨_, hk.out.q.nb, HTb.out⟩)).mono ?_; rintro e w8 ⟨rfl, hb8⟩))
  have HK8 : Hid (QuT w w8 (.slice A la ca) (.slice B lb cb) xa xb a b fmD g) := Lib.hid (by go_split_ands; exact QuT.below (Hid.out (by assumption)) hb8)
  clear hb8 HKd HK7' p1 p2 p3 HTa HTb HBg
  have a1 := HK8.out.q.a1
  go_wp2_with fail
  refine (shl_walk _ a (sh : Int) w8 HK8.out.q.na (by omega) (by have := HM.out; omega)).mono ?_
  rintro e w9 ⟨vx, rfl, hx9, hb9⟩
  rw [Int.toNat_natCast] at hx9
  have HX9 := Lib.hid hx9
  have HK9 := Lib.hid (HK8.out.below hb9)
  obtain ⟨Ax, cx, rfl, hcx, hrx⟩ := hx9
  obtain ⟨x, hx⟩ : ∃ x, a * 2 ^ sh = x := ⟨_, rfl⟩
  rw [hx] at HX9 HQ HP ⊢
  obtain ⟨nx, hnx⟩ : ∃ n, (toL x).length = n := ⟨_, rfl⟩
  have HLx := Lib.hid (show (toL x).length ≤ 8192 by rw [toL_length]; have := HQ.out.1; omega)
  rw [hnx] at HX9 ⊢
  clear hb9 HK8 a1 hcx hrx hx hnx
  have b1 := HK9.out.q.b1
  go_wp2_with fail
  refine (quorem_walk _ _ x b w9 HX9.out HK9.out.q.nb HM.out.2.1 HLx.out (by have := HM.out; omega)).mono ?_
  rintro e w10 ⟨vq, vr, rfl, hq10, hr10, hb10⟩
  obtain ⟨q, hq⟩ : ∃ q, x / b = q := ⟨_, rfl⟩
  obtain ⟨r, hr⟩ : ∃ r, x % b = r := ⟨_, rfl⟩
  rw [hq] at hq10 HQ
  rw [hr] at hr10 HQ
  have HPq : Hid (IsPat fmD (a * 2 ^ xa) (b * 2 ^ xb) (rsize fmD (stk q r) xx)) := Lib.hid (by unfold stk; rw [← hq, ← hr]; exact HP.out)
  have HKq := Lib.hid (show QuU w w10.drew (.slice A la ca) (.slice B lb cb) xa xb a b fmD g vq vr q r from QuU.below ⟨HK9.out.below hb10, hq10, hr10⟩ (below_draw' _))
  have HKe := Lib.hid (HK9.out.below hb10)
  obtain ⟨z, hz⟩ : ∃ z, rsize fmD (stk q r) xx = z := ⟨_, rfl⟩
  have hzl : z ≤ fmD.inf := by rw [← hz]; exact rsize_le _ _ _
  rw [hz] at HPq
  have HZl := Lib.hid hzl
  have HSize := Lib.hid (fun (W : World) (v : Value) (h : NatAt W v (stk q r)) (ht : Tab64 W) => show Calls Tryz.prog 209 #[.agg #[.int .i64 53, .int .i64 (-1074), .int .i64 63], v, .int .i64 xx] W fun e w' => e = .returned (.int .u64 (z : Int)) ∧ Below W.heap.size W w' from by
    rw [← hz]; exact size_walk_D v (stk q r) xx W h ht HQ.out.2.2.2 HQ.out.2.2.1 HX.out.1 HX.out.2)
  have HSgn := Lib.hid (fun (W : World) => show Calls Tryz.prog 208 #[.agg #[.int .i64 53, .int .i64 (-1074), .int .i64 63], .bool false, .int .u64 (z : Int)] W fun e w' => e = .returned (.int .u64 (z : Int)) ∧ Below W.heap.size W w' from by
    have h := signed_walk fmD (.inr rfl) false z (Nat.lt_of_le_of_lt hzl (inf_lt _ (.inr rfl))) W
    rw [show sgn fmD false z = z by simp [sgn]] at h
    exact h)
  clear hb10 HK9 b1 hq hr hq10 hr10 HP HX9 HLx hz hzl
  go_wp2_with fail
  go_region_held3 (fun w' => w'.cell? ⟨g, 0, none⟩ = some (.int .i64 53) ∧ w'.cell? ⟨g, 1, none⟩ = some (.int .i64 (-1074)) ∧ w'.cell? ⟨g, 2, none⟩ = some (.int .i64 63) ∧ w'.cell? ⟨w.heap.size, 0, none⟩ = some (.bool false) ∧ w'.cell? ⟨w.heap.size + 1, 0, none⟩ = some (.bool false) ∧ w'.cell? ⟨w.heap.size, 2, none⟩ = some (.int .i64 (xa : Int)) ∧ w'.cell? ⟨w.heap.size + 1, 2, none⟩ = some (.int .i64 (xb : Int)) ∧ Hid (QuU w w' (.slice A la ca) (.slice B lb cb) xa xb a b fmD g vq vr q r))
    (first | exact ⟨HKq.out.t.f0, HKq.out.t.f1, HKq.out.t.f2, HKq.out.t.q.a0, HKq.out.t.q.b0, HKq.out.t.q.a2, HKq.out.t.q.b2, HKq⟩ | (go_split_ands; (have K5 : QuU w w11 (.slice A la ca) (.slice B lb cb) xa xb a b fmD g vq vr q r := QuU.below (Hid.out (by assumption)) hb11); exact ⟨K5.t.f0, K5.t.f1, K5.t.f2, K5.t.q.a0, K5.t.q.b0, K5.t.q.a2, K5.t.q.b2, Lib.hid K5⟩))
    (first | (go_split_ands; rename_i hk; go_at_call 210; refine (sticky_walk _ _ q r _ hk.out.nq hk.out.nr (by have := HQ.out; omega)).mono ?_; rintro e w11 ⟨s11, rfl, hn11, hb11⟩; (have HN11 := Lib.hid hn11); clear hn11) | (go_split_ands; rename_i hk; go_at_call 209; (try rw [p7]); refine (HSize.out _ _ HN11.out hk.out.t.q.ht).mono ?_; rintro e w11 ⟨rfl, hb11⟩) | (go_split_ands; go_at_call 208; refine (HSgn.out _).mono ?_; rintro e w11 ⟨rfl, hb11⟩))
  have HK11 : Hid (QuU w w11 (.slice A la ca) (.slice B lb cb) xa xb a b fmD g vq vr q r) := Lib.hid (by go_split_ands; exact QuU.below (Hid.out (by assumption)) hb11)
  go_wp2
  go_ret2
  exact ⟨z, rfl, HPq.out, HZl.out, HK11.out.t.q.bl⟩
end Go.Proofs.YtibjogbalmbeeaaGreatDoor
