/- Walks: round.Quotient of nought; the law Means (printed by gen_means.py). -/
import Derived.Test.YtmfjimmodaofdaaGreatDoorLw
import Derived.Test.YtmfjimmodaofdaaGreatDoorQu
namespace Go.Proofs.YtmfjimmodaofdaaGreatDoor
open Go.RowKit

set_option maxRecDepth 100000 in
set_option maxHeartbeats 1000000 in
theorem quonil_S (s t : Value) (b xb : Nat) (w : World) (h : NatAt w s 0) (g : NatAt w t b) (ht : Tab64 w) (hb : b % 2 = 1) (hsb : blen b ≤ 100000) (hxb : xb ≤ 500000) :
    Calls Tryz.prog 26 #[.int .i64 32, .agg #[.bool false, s, .int .i64 0], .agg #[.bool false, t, .int .i64 (xb : Int)]] w fun e w' => e = .returned (.tuple #[.int .u64 0, .int .i64 0]) ∧ Below w.heap.size w w' := by
  have hb0 : b ≠ 0 := by intro e; rw [e] at hb; omega
  have hlb : (toL b).length ≤ 4096 := by rw [toL_length]; omega
  have hlb0 : (toL b).length ≠ 0 := fun e => hb0 ((toL_length_zero b).1 e)
  have hl0 : (toL 0).length = 0 := by rw [toL_zero]; rfl
  have H := Lib.hid h
  have G := Lib.hid g
  have HT := Lib.hid ht
  have HM := Lib.hid (show b ≠ 0 ∧ (toL b).length ≤ 4096 ∧ b % 2 = 1 ∧ blen b ≤ 100000 ∧ xb ≤ 500000 from ⟨hb0, hlb, hb, hsb, hxb⟩)
  obtain ⟨A, ca, rfl, hca, hra⟩ := h
  obtain ⟨B, cb, rfl, hcb, hrb⟩ := g
  obtain ⟨la, hla2⟩ : ∃ la, (toL 0).length = la := ⟨_, rfl⟩
  obtain ⟨lb, hlb2⟩ : ∃ lb, (toL b).length = lb := ⟨_, rfl⟩
  rw [hla2] at H hl0 ⊢
  rw [hlb2] at G hlb0 ⊢
  have hl1 : ((la : Int) == 0) = true := by rw [beq_iff_eq]; omega
  have hl2 : ((lb : Int) == 0) = false := by rw [beq_eq_false_iff_ne]; omega
  have W0 := below_chain (below_alloc' w (.cells #[.bool false, .slice A la ca, .int .i64 0] 46)) (below_alloc' _ (.cells #[.bool false, .slice B lb cb, .int .i64 (xb : Int)] 46))
  have K0 : QuS w ((w.alloc (.cells #[.bool false, .slice A la ca, .int .i64 0] 46)).alloc (.cells #[.bool false, .slice B lb cb, .int .i64 (xb : Int)] 46)) (.slice A la ca) (.slice B lb cb) 0 xb 0 b fmS :=
    ⟨by simp [go_sem], by simp [go_sem], by simp [go_sem], by simp [go_sem], by simp [go_sem], by simp [go_sem], H.out.below W0, G.out.below W0, HT.out.below W0, W0⟩
  have HK0 := Lib.hid K0
  clear hra hrb hca hcb hla2 hlb2 hlb hlb0 hl0 hb0 hb hsb hxb ht W0 K0 H G HT
  go_enter Tryz.func26, Tryz.ntmps26
  go_wp2_with fail
  obtain ⟨w1, hw1⟩ : ∃ w1, ((w.alloc (.cells #[.bool false, .slice A la ca, .int .i64 0] 46)).alloc (.cells #[.bool false, .slice B lb cb, .int .i64 (xb : Int)] 46)) = w1 := ⟨_, rfl⟩
  rw [hw1] at HK0 ⊢
  clear hw1
  refine (rof_single w1).mono ?_
  rintro e w2 ⟨rfl, hb2⟩
  rw [show fmS.val = .agg #[.int .i64 24, .int .i64 (-149), .int .i64 31] from rfl]
  have HK2 := Lib.hid (HK0.out.below (below_chain hb2 (below_alloc' w2 (.cells #[.int .i64 24, .int .i64 (-149), .int .i64 31] 94))))
  have F2 : Box3 (w2.alloc (.cells #[.int .i64 24, .int .i64 (-149), .int .i64 31] 94)) w2.heap.size (.int .i64 24) (.int .i64 (-149)) (.int .i64 31) := ⟨by simp, by simp, by simp, by simp, by simp, by simp, by simp⟩
  have HF2 := Lib.hid F2
  have a0 := HK2.out.a0
  have a1 := HK2.out.a1
  have a2 := HK2.out.a2
  obtain ⟨f0, f1, f2, _⟩ := F2
  clear hb2 HK0
  go_wp2_with fail
  clear f0 f1 f2 a0 a1 a2
  obtain ⟨w3, hw3⟩ : ∃ w3, w2.alloc (.cells #[.int .i64 24, .int .i64 (-149), .int .i64 31] 94) = w3 := ⟨_, rfl⟩
  obtain ⟨g, hg⟩ : ∃ g, w2.heap.size = g := ⟨_, rfl⟩
  rw [hw3] at HK2 HF2 ⊢
  rw [hg] at HF2 ⊢
  clear hw3 hg
  refine (dform_walk false _ 0 0 w3 HK2.out.na (by decide) (by simp) (by omega) (by omega) (fun e => absurd rfl e) (fun _ => rfl)).mono ?_
  rintro e w4 ⟨rfl, hb4⟩
  have HK4 := Lib.hid (HK2.out.below hb4)
  clear hb4 HK2 HF2
  have b0 := HK4.out.b0
  have b1 := HK4.out.b1
  have b2 := HK4.out.b2
  go_wp2_with fail
  refine (dform_walk false _ b (xb : Int) w4 HK4.out.nb (by have := HM.out; omega) (by simp) (by omega) (by have := HM.out; omega) (fun _ => HM.out.2.2.1) (fun e => absurd e HM.out.1)).mono ?_
  rintro e w5 ⟨rfl, hb5⟩
  have HK5 := Lib.hid (HK4.out.below hb5)
  clear hb5 HK4 b0 b1 b2
  have b1 := HK5.out.b1
  have a0 := HK5.out.a0
  have a1 := HK5.out.a1
  have a2 := HK5.out.a2
  go_wp2_with fail
  refine (long_no _ 0 0 w5 HK5.out.na (by rw [toL_zero]; simp)).mono ?_
  rintro e w6 ⟨rfl, hb6⟩
  have HK6 := Lib.hid (HK5.out.below hb6)
  clear hb6 HK5 b1 a0 a1 a2
  have b0 := HK6.out.b0
  have b1 := HK6.out.b1
  have b2 := HK6.out.b2
  go_wp2_with fail
  refine (long_no _ b (xb : Int) w6 HK6.out.nb HM.out.2.1).mono ?_
  rintro e w7 ⟨rfl, hb7⟩
  have HK7 := Lib.hid (HK6.out.below hb7)
  clear hb7 HK6 b0 b1 b2
  have a1 := HK7.out.a1
  go_wp2
  go_ret2
  exact ⟨rfl, HK7.out.bl⟩

set_option maxRecDepth 100000 in
set_option maxHeartbeats 1000000 in
theorem quonil_D (s t : Value) (b xb : Nat) (w : World) (h : NatAt w s 0) (g : NatAt w t b) (ht : Tab64 w) (hb : b % 2 = 1) (hsb : blen b ≤ 100000) (hxb : xb ≤ 500000) :
    Calls Tryz.prog 26 #[.int .i64 64, .agg #[.bool false, s, .int .i64 0], .agg #[.bool false, t, .int .i64 (xb : Int)]] w fun e w' => e = .returned (.tuple #[.int .u64 0, .int .i64 0]) ∧ Below w.heap.size w w' := by
  have hb0 : b ≠ 0 := by intro e; rw [e] at hb; omega
  have hlb : (toL b).length ≤ 4096 := by rw [toL_length]; omega
  have hlb0 : (toL b).length ≠ 0 := fun e => hb0 ((toL_length_zero b).1 e)
  have hl0 : (toL 0).length = 0 := by rw [toL_zero]; rfl
  have H := Lib.hid h
  have G := Lib.hid g
  have HT := Lib.hid ht
  have HM := Lib.hid (show b ≠ 0 ∧ (toL b).length ≤ 4096 ∧ b % 2 = 1 ∧ blen b ≤ 100000 ∧ xb ≤ 500000 from ⟨hb0, hlb, hb, hsb, hxb⟩)
  obtain ⟨A, ca, rfl, hca, hra⟩ := h
  obtain ⟨B, cb, rfl, hcb, hrb⟩ := g
  obtain ⟨la, hla2⟩ : ∃ la, (toL 0).length = la := ⟨_, rfl⟩
  obtain ⟨lb, hlb2⟩ : ∃ lb, (toL b).length = lb := ⟨_, rfl⟩
  rw [hla2] at H hl0 ⊢
  rw [hlb2] at G hlb0 ⊢
  have hl1 : ((la : Int) == 0) = true := by rw [beq_iff_eq]; omega
  have hl2 : ((lb : Int) == 0) = false := by rw [beq_eq_false_iff_ne]; omega
  have W0 := below_chain (below_alloc' w (.cells #[.bool false, .slice A la ca, .int .i64 0] 46)) (below_alloc' _ (.cells #[.bool false, .slice B lb cb, .int .i64 (xb : Int)] 46))
  have K0 : QuS w ((w.alloc (.cells #[.bool false, .slice A la ca, .int .i64 0] 46)).alloc (.cells #[.bool false, .slice B lb cb, .int .i64 (xb : Int)] 46)) (.slice A la ca) (.slice B lb cb) 0 xb 0 b fmD :=
    ⟨by simp [go_sem], by simp [go_sem], by simp [go_sem], by simp [go_sem], by simp [go_sem], by simp [go_sem], H.out.below W0, G.out.below W0, HT.out.below W0, W0⟩
  have HK0 := Lib.hid K0
  clear hra hrb hca hcb hla2 hlb2 hlb hlb0 hl0 hb0 hb hsb hxb ht W0 K0 H G HT
  go_enter Tryz.func26, Tryz.ntmps26
  go_wp2_with fail
  obtain ⟨w1, hw1⟩ : ∃ w1, ((w.alloc (.cells #[.bool false, .slice A la ca, .int .i64 0] 46)).alloc (.cells #[.bool false, .slice B lb cb, .int .i64 (xb : Int)] 46)) = w1 := ⟨_, rfl⟩
  rw [hw1] at HK0 ⊢
  clear hw1
  refine (rof_double w1).mono ?_
  rintro e w2 ⟨rfl, hb2⟩
  rw [show fmD.val = .agg #[.int .i64 53, .int .i64 (-1074), .int .i64 63] from rfl]
  have HK2 := Lib.hid (HK0.out.below (below_chain hb2 (below_alloc' w2 (.cells #[.int .i64 53, .int .i64 (-1074), .int .i64 63] 94))))
  have F2 : Box3 (w2.alloc (.cells #[.int .i64 53, .int .i64 (-1074), .int .i64 63] 94)) w2.heap.size (.int .i64 53) (.int .i64 (-1074)) (.int .i64 63) := ⟨by simp, by simp, by simp, by simp, by simp, by simp, by simp⟩
  have HF2 := Lib.hid F2
  have a0 := HK2.out.a0
  have a1 := HK2.out.a1
  have a2 := HK2.out.a2
  obtain ⟨f0, f1, f2, _⟩ := F2
  clear hb2 HK0
  go_wp2_with fail
  clear f0 f1 f2 a0 a1 a2
  obtain ⟨w3, hw3⟩ : ∃ w3, w2.alloc (.cells #[.int .i64 53, .int .i64 (-1074), .int .i64 63] 94) = w3 := ⟨_, rfl⟩
  obtain ⟨g, hg⟩ : ∃ g, w2.heap.size = g := ⟨_, rfl⟩
  rw [hw3] at HK2 HF2 ⊢
  rw [hg] at HF2 ⊢
  clear hw3 hg
  refine (dform_walk false _ 0 0 w3 HK2.out.na (by decide) (by simp) (by omega) (by omega) (fun e => absurd rfl e) (fun _ => rfl)).mono ?_
  rintro e w4 ⟨rfl, hb4⟩
  have HK4 := Lib.hid (HK2.out.below hb4)
  clear hb4 HK2 HF2
  have b0 := HK4.out.b0
  have b1 := HK4.out.b1
  have b2 := HK4.out.b2
  go_wp2_with fail
  refine (dform_walk false _ b (xb : Int) w4 HK4.out.nb (by have := HM.out; omega) (by simp) (by omega) (by have := HM.out; omega) (fun _ => HM.out.2.2.1) (fun e => absurd e HM.out.1)).mono ?_
  rintro e w5 ⟨rfl, hb5⟩
  have HK5 := Lib.hid (HK4.out.below hb5)
  clear hb5 HK4 b0 b1 b2
  have b1 := HK5.out.b1
  have a0 := HK5.out.a0
  have a1 := HK5.out.a1
  have a2 := HK5.out.a2
  go_wp2_with fail
  refine (long_no _ 0 0 w5 HK5.out.na (by rw [toL_zero]; simp)).mono ?_
  rintro e w6 ⟨rfl, hb6⟩
  have HK6 := Lib.hid (HK5.out.below hb6)
  clear hb6 HK5 b1 a0 a1 a2
  have b0 := HK6.out.b0
  have b1 := HK6.out.b1
  have b2 := HK6.out.b2
  go_wp2_with fail
  refine (long_no _ b (xb : Int) w6 HK6.out.nb HM.out.2.1).mono ?_
  rintro e w7 ⟨rfl, hb7⟩
  have HK7 := Lib.hid (HK6.out.below hb7)
  clear hb7 HK6 b0 b1 b2
  have a1 := HK7.out.a1
  go_wp2
  go_ret2
  exact ⟨rfl, HK7.out.bl⟩

/-- Quotient of whole numbers times powers of two, from nought on. -/
theorem quo_any (f : Fm) (hf : f.ok) (s t : Value) (a b xa xb : Nat) (w : World) (h : NatAt w s a) (g : NatAt w t b) (ht : Tab64 w) (ha : a ≠ 0 → a % 2 = 1) (hxz : a = 0 → xa = 0) (hb : b % 2 = 1) (hsa : blen a ≤ 100000) (hsb : blen b ≤ 100000) (hxa : xa ≤ 500000) (hxb : xb ≤ 500000) :
    Calls Tryz.prog 26 #[.int .i64 (fmt f), .agg #[.bool false, s, .int .i64 (xa : Int)], .agg #[.bool false, t, .int .i64 (xb : Int)]] w fun e w' => ∃ p : Nat, e = .returned (.tuple #[.int .u64 (p : Int), .int .i64 0]) ∧ IsPat f (a * 2 ^ xa) (b * 2 ^ xb) p ∧ Below w.heap.size w w' := by
  by_cases hz : a = 0
  · have hx0 := hxz hz
    subst hz
    subst hx0
    have hp : IsPat f (0 * 2 ^ 0) (b * 2 ^ xb) 0 := by
      rw [Nat.zero_mul]
      exact pat_nought f (Nat.mul_pos (Nat.pos_of_ne_zero (by intro e; rw [e] at hb; omega)) (Nat.two_pow_pos _))
    rcases hf with h1 | h1 <;> subst h1
    · exact (quonil_S s t b xb w h g ht hb hsb hxb).mono fun e w' ⟨e1, e2⟩ => ⟨0, e1, hp, e2⟩
    · exact (quonil_D s t b xb w h g ht hb hsb hxb).mono fun e w' ⟨e1, e2⟩ => ⟨0, e1, hp, e2⟩
  · exact (quotient_any f hf s t a b xa xb w h g ht (ha hz) hb hsa hsb hxa hxb).mono fun e w' ⟨p, e1, e2, _, e3⟩ => ⟨p, e1, e2, e3⟩
theorem near_any (f : Fm) (hf : f.ok) (s : Value) (a u : Nat) (w : World) (h : NatAt w s a) (ht : Tab64 w) (hb : blen a ≤ 500000) (hu : u ≤ 1048576) (hodd : a ≠ 0 → a % 2 = 1) (hz : a = 0 → u = 0) :
    Calls Tryz.prog 28 #[.int .i64 (fmt f), .agg #[.bool false, s, .int .i64 (u : Int)]] w fun e w' => ∃ p : Nat, e = .returned (.tuple #[.int .u64 (p : Int), .int .i64 0]) ∧ IsPat f (a * 2 ^ u) 1 p ∧ Below w.heap.size w w' := by
  by_cases h0 : a = 0
  · have hu0 := hz h0
    subst h0
    subst hu0
    have hp : IsPat f (0 * 2 ^ 0) 1 0 := by rw [Nat.zero_mul]; exact pat_nought f (by omega)
    rcases hf with h1 | h1 <;> subst h1
    · exact (nearest_walk_S false s 0 0 w h ht hb (by simp) (by omega) (by omega) (fun e => absurd rfl e) (fun _ => rfl)).mono fun e w' ⟨e1, e2⟩ => ⟨0, e1, hp, e2⟩
    · exact (nearest_walk_D false s 0 0 w h ht hb (by simp) (by omega) (by omega) (fun e => absurd rfl e) (fun _ => rfl)).mono fun e w' ⟨e1, e2⟩ => ⟨0, e1, hp, e2⟩
  · exact (nearest_any f hf s a u w h ht hb hu (hodd h0)).mono fun e w' ⟨p, e1, e2, _, e3⟩ => ⟨p, e1, e2, e3⟩
/-- A word as a number times a power of two. -/
theorem word_odd (b : Nat) : (b / 2 ^ tz b ≠ 0 → b / 2 ^ tz b % 2 = 1) ∧ (b / 2 ^ tz b = 0 → b = 0) ∧ ∃ u : Nat, dexp b 0 = (u : Int) ∧ b / 2 ^ tz b * 2 ^ u = b ∧ u ≤ blen b ∧ (b / 2 ^ tz b = 0 → u = 0) := by
  by_cases h : b = 0
  · subst h
    refine ⟨by simp, fun _ => rfl, 0, by unfold dexp; rfl, by simp, Nat.zero_le _, fun _ => rfl⟩
  · obtain ⟨o1, o2⟩ := odd_split h
    refine ⟨fun _ => o1, fun e => by rw [e] at o1; omega, tz b, by unfold dexp; rw [if_neg h, Int.zero_add], o2, ?_, fun e => by rw [e] at o1; omega⟩
    have := tz_le h
    omega

set_option maxRecDepth 100000 in
set_option maxHeartbeats 4000000 in
theorem means_walk (d : Bool) (b : Nat) (e : Int) (hb : b < 18446744073709551616) (w : World) (ht : Tab64 w) (h10 : Tab10 w) :
    Calls Tryz.prog 6 #[.bool d, .int .u64 (b : Int), .int .i64 e] w fun r w' => r = .returned (.bool true) ∧ Below w.heap.size w w' := by
  have hF := format_walk d w
  have hP := fun (x : ByteArray) (hx : x.size ≤ 9223372036854775807) W (h : Below w.heap.size w W) => dparse_walk (fmB d) (fmB_ok d) x W hx (ht.below h)
  have hA := fun W (h : Below w.heap.size w W) => awake_walk W (ht.below h) (h10.below h)
  have hQ := fun s t a c xa xc W (h : Below w.heap.size w W) h1 h2 => quo_any (fmB d) (fmB_ok d) s t a c xa xc W h1 h2 (ht.below h)
  have hNe := fun s a u W (h : Below w.heap.size w W) h1 => near_any (fmB d) (fmB_ok d) s a u W h1 (ht.below h)
  obtain ⟨F, hFd⟩ : ∃ F, fmB d = F := ⟨_, rfl⟩
  rw [hFd] at hF hP hQ hNe
  obtain ⟨FF, hFF⟩ : ∃ FF, fmt F = FF := ⟨_, rfl⟩
  rw [hFF] at hF hP hQ hNe
  have HF := Lib.hid hF
  have HP := Lib.hid hP
  have HA := Lib.hid hA
  have HQ := Lib.hid hQ
  have HNe := Lib.hid hNe
  have HT := Lib.hid ht
  have HW0 := Lib.hid (fun W => lwhole_walk b hb W)
  have HLi := Lib.hid (fun W => llimbs_walk b hb W)
  have hDl := digs_20 hb
  have hDd := digs_dec b
  have hD1 : 1 ≤ (Lib.decDigits b).length := by have := (dcV_digits b).2.2.2; omega
  have hDv := (dcV_digits b).1
  have hbl : blen b ≤ 64 := blen_le.2 hb
  clear hF hP hA hQ hNe hFd hFF ht h10 hb
  by_cases e1 : e < -500
  · clear HP HW0 hDl hDd hD1 HQ HNe HT HLi hDv hbl
    go_enter Tryz.func6, Tryz.ntmps6
    go_wp2_with fail
    refine HF.out.mono ?_
    rintro r w0 ⟨rfl, hw0⟩
    have h := hw0.symm
    subst h
    clear hw0 HF
    go_wp2_with fail
    refine (HA.out _ (Below.refl _ _)).mono ?_
    rintro r w1 ⟨rfl, hb1⟩
    go_wp2
    go_ret
    exact ⟨rfl, hb1⟩
  have e1d : decide (e < -500) = false := decide_eq_false e1
  by_cases e2 : 500 < e
  · clear HP HW0 hDl hDd hD1 HQ HNe HT HLi hDv hbl
    go_enter Tryz.func6, Tryz.ntmps6
    go_wp2_with fail
    refine HF.out.mono ?_
    rintro r w0 ⟨rfl, hw0⟩
    have h := hw0.symm
    subst h
    clear hw0 HF
    go_wp2_with fail
    refine (HA.out _ (Below.refl _ _)).mono ?_
    rintro r w1 ⟨rfl, hb1⟩
    go_wp2
    go_ret
    exact ⟨rfl, hb1⟩
  have HE := Lib.hid (fun W => lexp_walk e (by omega) (by omega) W)
  have HNum := Lib.hid (fun (v : Nat) (k : Int) (h : ParOk F (bs ([] ++ Lib.decDigits b ++ exS e)) v k) => num_ok (f := F) (.inl rfl) hDd hD1 hDl (by omega) (by omega) h)
  rw [hDv] at HNum
  obtain ⟨D, hD⟩ : ∃ D, Lib.decDigits b = D := ⟨_, rfl⟩
  rw [hD] at HW0 hDl HNum
  have l0 := exS_len e (by omega) (by omega)
  obtain ⟨DB, hDB⟩ : ∃ X, bs D = X := ⟨_, rfl⟩
  obtain ⟨EB, hEB⟩ : ∃ X, bs (exS e) = X := ⟨_, rfl⟩
  obtain ⟨TB, hTB⟩ : ∃ X, bs (D ++ exS e) = X := ⟨_, rfl⟩
  have hadd : ∀ W : World, (Op.stringOp .add DB EB).run Tryz.prog W = .ok (.string TB) W := fun W => by
    rw [run_string_add_sum W DB EB (by rw [← hDB, ← hEB, bs_size, bs_size]; omega), ← hDB, ← hEB, bs_append, hTB]
  have HTs := Lib.hid (show TB.size ≤ 9223372036854775807 by rw [← hTB, bs_size, List.length_append]; omega)
  rw [hDB] at HW0
  rw [hEB] at HE
  have HNum2 : Hid (∀ (v : Nat) (k : Int), ParOk F TB v k → k = 0 ∧ IsPat F (tn b e) (td e) v) := Lib.hid fun v k h => by
    rw [← hTB] at h
    obtain ⟨h1, p, h2, _, h3⟩ := HNum.out v k h
    rw [decide_eq_false (by decide)] at h3
    rw [h3]
    exact ⟨h1, h2⟩
  obtain ⟨n, hn⟩ : ∃ n : Nat, max e (-e) = (n : Int) := ⟨e.natAbs, by omega⟩
  have hnb : n ≤ 500 := by omega
  have q1 : IntKind.i64.wrap (-e) = -e := by rw [IntKind.wrap_i64]; omega
  have HTn := Lib.hid (fun W h => lten_walk n (by omega) W h)
  have HTd : Hid ((0 ≤ e → tn b e = b * 10 ^ n ∧ td e = 1) ∧ (e < 0 → tn b e = b ∧ td e = 10 ^ n)) := Lib.hid (by
    unfold tn td
    refine ⟨fun h => ?_, fun h => ?_⟩
    · rw [show e.toNat = n by omega, show (-e).toNat = 0 by omega]; exact ⟨rfl, rfl⟩
    · rw [show e.toNat = 0 by omega, show (-e).toNat = n by omega, Nat.pow_zero, Nat.mul_one]; exact ⟨rfl, rfl⟩)
  obtain ⟨wo1, wo2, u, hu, hou, hub, huz⟩ := word_odd b
  obtain ⟨ob, hob⟩ : ∃ ob, b / 2 ^ tz b = ob := ⟨_, rfl⟩
  have hobl : blen ob ≤ 64 := Nat.le_trans (by rw [← hob]; exact blen_mono (Nat.div_le_self _ _)) hbl
  rw [hob] at wo1 wo2 hou huz
  have HO := Lib.hid (show (ob ≠ 0 → ob % 2 = 1) ∧ (ob = 0 → u = 0) ∧ ob * 2 ^ u = b ∧ blen ob ≤ 64 ∧ u ≤ 64 from ⟨wo1, huz, hou, hobl, by omega⟩)
  have HMk := Lib.hid (fun s W (h : NatAt W s b) hT => by
    have := make_walk false s b 0 W h hT (by omega) (by simp) (by omega) (by omega) (fun h => by have := tz_le h; omega) (fun h => by have := tz_le h; omega)
    rw [hu, hob] at this
    exact this)
  have e1' : ¬ e < -500 := e1
  have e2' : ¬ (500 : Int) < e := e2
  clear hDB hEB hTB HNum hD hDl hDd hD1 hDv hbl l0 hu hob wo1 wo2 hou hub huz hobl hnb
  by_cases hneg : e < 0
  all_goals
    go_enter Tryz.func6, Tryz.ntmps6
    go_wp2_with fail
    refine HF.out.mono ?_
    rintro r w0 ⟨rfl, hw0⟩
    have h := hw0.symm
    subst h
    clear hw0 HF
    go_wp2_with fail
    refine (HA.out _ (Below.refl _ _)).mono ?_
    rintro r w1 ⟨rfl, hb1⟩
    have HW1 := Lib.hid hb1
    clear hb1 HA
    go_wp2_with fail
    refine (HW0.out _).mono ?_
    rintro r w2 ⟨rfl, hb2⟩
    have HW2 := Lib.hid (below_chain HW1.out hb2)
    clear hb2 HW0 HW1
    go_wp2_with fail
    refine (HE.out _).mono ?_
    rintro r w3 ⟨rfl, hb3⟩
    have HW3 := Lib.hid (below_chain HW2.out hb3)
    clear hb3 HW2 HE
    go_wp2_with fail
    refine (HP.out TB HTs.out _ HW3.out).mono ?_
    rintro r w4 ⟨v, k, rfl, hok, hb4⟩
    have HW4 := Lib.hid (below_chain HW3.out hb4)
    obtain ⟨rfl, hpt⟩ := HNum2.out v k hok
    have HPt := Lib.hid hpt
    clear hb4 hok hpt HW3 HTs HNum2 HP hadd
    go_wp2_with fail
    refine (HTn.out _ (HT.out.below HW4.out)).mono ?_
    rintro r w5 ⟨s5, o5, u5, rfl, hn5, ho5, hou5, hbo5, hub5, hb5⟩
    have hb6 := below_alloc' w5 (.cells #[.bool false, s5, .int .i64 (u5 : Int)] 46)
    have HN6 := Lib.hid (hn5.below hb6)
    have HW6 := Lib.hid (below_chain (below_chain HW4.out hb5) hb6)
    have HY6 : Hid (Box3 (w5.alloc (.cells #[.bool false, s5, .int .i64 (u5 : Int)] 46)) w5.heap.size (.bool false) s5 (.int .i64 (u5 : Int))) := Lib.hid ⟨by simp, by simp, by simp, by simp, by simp, by simp, by simp⟩
    have HO5 := Lib.hid (show o5 % 2 = 1 ∧ o5 * 2 ^ u5 = 10 ^ n ∧ blen o5 ≤ 8001 ∧ u5 ≤ 8001 from ⟨ho5, hou5, hbo5, hub5⟩)
    obtain ⟨A5, c5, rfl, hc5, hr5⟩ := hn5
    obtain ⟨n5, hn5⟩ : ∃ n, (toL o5).length = n := ⟨_, rfl⟩
    rw [hn5] at HN6 HW6 HY6 ⊢
    clear hb5 hb6 hc5 hr5 hn5 ho5 hou5 hbo5 hub5 HW4 HTn q1 hn
    go_wp2_with fail
    obtain ⟨w6, hw6⟩ : ∃ w6, w5.alloc (.cells #[.bool false, .slice A5 n5 c5, .int .i64 (u5 : Int)] 46) = w6 := ⟨_, rfl⟩
    obtain ⟨g5, hg5⟩ : ∃ g, w5.heap.size = g := ⟨_, rfl⟩
    rw [hw6] at HN6 HW6 HY6 ⊢
    rw [hg5] at HY6 ⊢
    clear hw6 hg5
    refine (HLi.out w6).mono ?_
    rintro r w7 ⟨s7, rfl, hn7, hb7⟩
    have HN7 := Lib.hid hn7
    have HN67 := Lib.hid (HN6.out.below hb7)
    have HW7 := Lib.hid (below_chain HW6.out hb7)
    have HY7 := Lib.hid (HY6.out.below hb7)
    obtain ⟨A7, c7, rfl, hc7, hr7⟩ := hn7
    obtain ⟨n7, hn7⟩ : ∃ n, (toL b).length = n := ⟨_, rfl⟩
    rw [hn7] at HN7 ⊢
    clear hb7 hc7 hr7 hn7 HN6 HW6 HY6 HLi
    go_wp2_with fail
    refine (HMk.out _ w7 HN7.out (HT.out.below HW7.out)).mono ?_
    rintro r w8 ⟨s8, rfl, hn8, hb8⟩
    have hb9 := below_alloc' w8 (.cells #[.bool false, s8, .int .i64 (u : Int)] 46)
    have HN9 := Lib.hid (hn8.below hb9)
    have HN59 := Lib.hid ((HN67.out.below hb8).below hb9)
    have HW9 := Lib.hid (below_chain (below_chain HW7.out hb8) hb9)
    have HY9 := Lib.hid ((HY7.out.below hb8).below hb9)
    have HZ9 : Hid (Box3 (w8.alloc (.cells #[.bool false, s8, .int .i64 (u : Int)] 46)) w8.heap.size (.bool false) s8 (.int .i64 (u : Int))) := Lib.hid ⟨by simp, by simp, by simp, by simp, by simp, by simp, by simp⟩
    have HG := Lib.hid (show w.heap.size ≤ w8.heap.size from (below_chain HW7.out hb8).size)
    obtain ⟨A8, c8, rfl, hc8, hr8⟩ := hn8
    obtain ⟨n8, hn8⟩ : ∃ n, (toL ob).length = n := ⟨_, rfl⟩
    rw [hn8] at HN9 HN59 HW9 HY9 HZ9 ⊢
    obtain ⟨y0, y1, y2, _⟩ := HY9.out
    obtain ⟨z0, z1, z2, _⟩ := HZ9.out
    clear hb8 hb9 hc8 hr8 hn8 HN7 HN67 HW7 HY7 HMk
    go_wp2_with fail
    obtain ⟨w9, hw9⟩ : ∃ w9, w8.alloc (.cells #[.bool false, .slice A8 n8 c8, .int .i64 (u : Int)] 46) = w9 := ⟨_, rfl⟩
    rw [hw9] at HN9 HN59 HW9 HZ9 ⊢
  · clear hw9 y0 y1 y2 z0 z1 z2 HY9 HZ9 HNe
    refine (HQ.out _ _ ob o5 u u5 w9 HW9.out HN9.out HN59.out HO.out.1 HO.out.2.1 HO5.out.1 (by have := HO.out; omega) (by have := HO5.out; omega) (by have := HO.out; omega) (by have := HO5.out; omega)).mono ?_
    rintro r w10 ⟨p, rfl, hp, hb10⟩
    have HW10 := Lib.hid (below_chain HW9.out hb10)
    obtain ⟨t1, t2⟩ := HTd.out.2 hneg
    rw [HO.out.2.2.1, HO5.out.2.1] at hp
    have hpt := HPt.out
    rw [t1, t2] at hpt
    have hpe := hpt.unique hp
    subst hpe
    clear hb10 hp hpt t1 t2 HPt HTd HQ HN9 HN59
    go_wp2
    go_ret
    exact ⟨rfl, HW10.out⟩
  · obtain ⟨g9, hg9⟩ : ∃ g, w8.heap.size = g := ⟨_, rfl⟩
    rw [hg9] at HZ9 HG ⊢
    have q5 : IntKind.i64.wrap ((u : Int) + (u5 : Int)) = (u : Int) + (u5 : Int) := by have := HO.out; have := HO5.out; rw [IntKind.wrap_i64]; omega
    obtain ⟨z, hz⟩ : ∃ z : Nat, (if ob = 0 then 0 else (u : Int) + (u5 : Int)) = (z : Int) := ⟨if ob = 0 then 0 else u + u5, by split <;> simp⟩
    have HZz := Lib.hid hz
    clear hw9 hg9 y0 y1 y2 z0 z1 z2 HY9 HQ
    refine (dmul_walk false _ _ ob o5 (u : Int) (u5 : Int) (z : Int) w9 hz HN9.out HN59.out (HT.out.below HW9.out) HO.out.1 (fun e => ⟨by have := HO.out.2.1 e; omega, rfl⟩) HO5.out.1 (by have := HO.out; omega) (by have := HO5.out; omega) (by omega) (by have := HO.out; omega) (by omega) (by have := HO5.out; omega)).mono ?_
    rintro r w10 ⟨s10, rfl, hn10, hb10⟩
    have HN10 := Lib.hid hn10
    have HZ10 := Lib.hid (HZ9.out.below hb10)
    have HW10 := Lib.hid (below_chain HW9.out hb10)
    obtain ⟨A10, c10, rfl, hc10, hr10⟩ := hn10
    obtain ⟨n10, hn10⟩ : ∃ n, (toL (ob * o5)).length = n := ⟨_, rfl⟩
    rw [hn10] at HN10 ⊢
    obtain ⟨z0, z1, z2, z3, z4, z5, z6⟩ := HZ10.out
    have HB11 := Lib.hid (HZ10.out.put (u0 := .bool false) (u1 := .slice A10 n10 c10) (u2 := .int .i64 (z : Int)))
    have HN11 := Lib.hid (HN10.out.put3 HZ10.out (by simp) (by simp) (by simp) (.bool false) (.slice A10 n10 c10) (.int .i64 (z : Int)))
    have HW11 := Lib.hid (put3_below (u0 := .bool false) (u1 := .slice A10 n10 c10) (u2 := .int .i64 (z : Int)) HW10.out HG.out)
    obtain ⟨x0, x1, x2, _⟩ := HB11.out
    clear hb10 hc10 hr10 hn10 HN9 HN59 HW9 HZ9 hz q5
    unfold put3 at x0 x1 x2
    go_wp2_with fail
    have hput : ((w10.setCell ⟨g9, 0, none⟩ (.bool false)).setCell ⟨g9, 1, none⟩ (.slice A10 n10 c10)).setCell ⟨g9, 2, none⟩ (.int .i64 (z : Int)) = put3 w10 g9 (.bool false) (.slice A10 n10 c10) (.int .i64 (z : Int)) := rfl
    rw [hput]
    obtain ⟨w11, hw11⟩ : ∃ w11, put3 w10 g9 (.bool false) (.slice A10 n10 c10) (.int .i64 (z : Int)) = w11 := ⟨_, rfl⟩
    rw [hw11] at HN11 HW11 ⊢
    clear hput hw11 x0 x1 x2 z0 z1 z2 z3 z4 z5 z6 HB11
    refine (HNe.out _ (ob * o5) z w11 HW11.out HN11.out (Nat.le_trans (blen_mul _ _) (by have := HO.out; have := HO5.out; omega)) (by have h1 := HZz.out; have := HO.out; have := HO5.out; split at h1 <;> omega) (fun h => by rw [Nat.mul_mod, HO.out.1 (fun e => h (by rw [e, Nat.zero_mul])), HO5.out.1]) (fun h => by have h1 := HZz.out; rw [if_pos (by rcases Nat.mul_eq_zero.1 h with h | h; (· exact h); (· have := HO5.out.1; rw [h] at this; omega))] at h1; omega)).mono ?_
    rintro r w12 ⟨p, rfl, hp, hb12⟩
    have HW12 := Lib.hid (below_chain HW11.out hb12)
    obtain ⟨t1, t2⟩ := HTd.out.1 (by omega)
    have hpt := HPt.out
    have hval : ob * o5 * 2 ^ z = b * 10 ^ n := by
      rw [← HO.out.2.2.1, ← HO5.out.2.1]
      by_cases h0 : ob = 0
      · rw [h0]; simp
      · have h1 := HZz.out
        rw [if_neg h0] at h1
        rw [show z = u + u5 by omega, Nat.pow_add]; ac_rfl
    rw [t1, t2, ← hval] at hpt
    have hpe := hpt.unique hp
    subst hpe
    clear hb12 hp hpt t1 t2 hval HPt HTd HNe HN11 HN10 HZ10 HW10 HW11
    go_wp2
    go_ret
    exact ⟨rfl, HW12.out⟩
end Go.Proofs.YtmfjimmodaofdaaGreatDoor
