/- Walks of num: Mul; of dyadic: Mul; of the laws' helpers: limbs, ten. -/
import Derived.Test.YtmfjimmodaofdaaGreatDoorEf
import Derived.Test.YtmfjimmodaofdaaGreatDoorGn
import Derived.Test.YtmfjimmodaofdaaGreatDoorEg
namespace Go.Proofs.YtmfjimmodaofdaaGreatDoor
open Go.RowKit

structure MuS (w w' : World) (neg : Bool) (vx vy : Value) (a b : Nat) : Prop where
  x0 : w'.cell? ⟨w.heap.size, 0, none⟩ = some (.bool neg)
  x1 : w'.cell? ⟨w.heap.size, 1, none⟩ = some vx
  y0 : w'.cell? ⟨w.heap.size + 1, 0, none⟩ = some (.bool false)
  y1 : w'.cell? ⟨w.heap.size + 1, 1, none⟩ = some vy
  r : Box2 w' (w.heap.size + 1 + 1) (.bool false) (.slice none 0 0)
  da : NatAt w' vx a
  db : NatAt w' vy b
  bl : Below w.heap.size w w'
theorem MuS.below {w w1 w2 : World} {neg : Bool} {vx vy : Value} {a b : Nat} (h : MuS w w1 neg vx vy a b) (hb : Below w1.heap.size w1 w2) : MuS w w2 neg vx vy a b :=
  ⟨cell_kept hb h.x0, cell_kept hb h.x1, cell_kept hb h.y0, cell_kept hb h.y1, h.r.below hb, h.da.below hb, h.db.below hb, below_chain h.bl hb⟩

set_option maxRecDepth 100000 in
set_option maxHeartbeats 1000000 in
theorem nmul_walk (neg : Bool) (v u : Value) (a b : Nat) (w : World) (h : NatAt w v a) (g : NatAt w u b) (hn : neg = true → a ≠ 0) (ha : (toL a).length ≤ 8192) (hb : (toL b).length ≤ 8192) (hab : (toL (a * b)).length ≤ 8192) :
    Calls Tryz.prog 61 #[.agg #[.bool neg, v], .agg #[.bool false, u]] w fun e w' => ∃ s, e = .returned (.tuple #[.agg #[.bool (neg && decide (0 < a * b)), s], .int .i64 0]) ∧ NatAt w' s (a * b) ∧ Below w.heap.size w w' := by
  have H := Lib.hid h
  have G := Lib.hid g
  obtain ⟨A, ca, rfl, hca, hra⟩ := h
  obtain ⟨B, cb, rfl, hcb, hrb⟩ := g
  obtain ⟨la, hla⟩ : ∃ la, (toL a).length = la := ⟨_, rfl⟩
  obtain ⟨lb, hlb⟩ : ∃ lb, (toL b).length = lb := ⟨_, rfl⟩
  have HM := Lib.hid (show (neg = true → a ≠ 0) ∧ (toL a).length ≤ 8192 ∧ (toL b).length ≤ 8192 ∧ (toL (a * b)).length ≤ 8192 from ⟨hn, ha, hb, hab⟩)
  rw [hla] at H ⊢
  rw [hlb] at G ⊢
  have W0 := below_chain (below_chain (below_alloc' w (.cells #[.bool neg, .slice A la ca] 44)) (below_alloc' _ (.cells #[.bool false, .slice B lb cb] 44))) (below_alloc' _ (.cells #[.bool false, .slice none 0 0] 44))
  have K0 : MuS w (((w.alloc (.cells #[.bool neg, .slice A la ca] 44)).alloc (.cells #[.bool false, .slice B lb cb] 44)).alloc (.cells #[.bool false, .slice none 0 0] 44)) neg (.slice A la ca) (.slice B lb cb) a b :=
    ⟨by simp [go_sem], by simp [go_sem], by simp [go_sem], by simp [go_sem], ⟨by simp [go_sem], by simp [go_sem], by simp [go_sem], by simp [go_sem], by simp [go_sem]⟩, H.out.below W0, G.out.below W0, W0⟩
  have HK0 := Lib.hid K0
  clear hra hrb hca hcb hla hlb hn ha hb hab W0 K0 H G
  go_enter Tryz.func61, Tryz.ntmps61
  go_wp2_with fail
  obtain ⟨w1, hw1⟩ : ∃ w1, (((w.alloc (.cells #[.bool neg, .slice A la ca] 44)).alloc (.cells #[.bool false, .slice B lb cb] 44)).alloc (.cells #[.bool false, .slice none 0 0] 44)) = w1 := ⟨_, rfl⟩
  rw [hw1] at HK0 ⊢
  clear hw1
  refine (nform_walk neg _ a w1 HK0.out.da HM.out.2.1 HM.out.1).mono ?_
  rintro e w2 ⟨rfl, hb2⟩
  have HK2 := Lib.hid (HK0.out.below hb2)
  have y0 := HK2.out.y0
  have y1 := HK2.out.y1
  clear hb2 HK0
  go_wp2_with fail
  refine (nform_walk false _ b w2 HK2.out.db HM.out.2.2.1 (by simp)).mono ?_
  rintro e w3 ⟨rfl, hb3⟩
  have HK3 := Lib.hid (HK2.out.below hb3)
  clear y0 y1
  have y1 := HK3.out.y1
  have x1 := HK3.out.x1
  clear hb3 HK2
  go_wp2_with fail
  refine (mul_walk _ _ a b w3 HK3.out.da HK3.out.db HM.out.2.1 HM.out.2.2.1 HM.out.2.2.2).mono ?_
  rintro e w4 ⟨v4, g4, rfl, ho4, _, hb4⟩
  have HN4 := Lib.hid ho4.nat
  have HK4 := Lib.hid (HK3.out.below hb4)
  obtain ⟨rest, rfl, _⟩ := ho4
  clear y1 x1
  have y0 := HK4.out.y0
  have x0 := HK4.out.x0
  obtain ⟨p, hp⟩ : ∃ p, a * b = p := ⟨_, rfl⟩
  rw [hp] at HN4
  have HPp := Lib.hid hp
  rw [show (toL (a * b)).length = (toL p).length by rw [hp]]
  obtain ⟨np, hnp⟩ : ∃ n, (toL p).length = n := ⟨_, rfl⟩
  rw [hnp] at HN4 ⊢
  clear hb4 HK3 hp hnp HM
  go_wp2_with fail
  refine (ntold_walk neg _ p w4 HN4.out).mono ?_
  rintro e w5 ⟨rfl, hb5⟩
  have HN5 := Lib.hid (HN4.out.below hb5)
  have HK5 := Lib.hid (HK4.out.below hb5)
  obtain ⟨r0, r1, r2, r3, r4⟩ := HK5.out.r
  clear hb5 x0 y0 HK4 HN4
  go_wp2
  have hR := HK5.out.r.anyR
  have hpt := hR.put (A := some ⟨g4, 0, none⟩) (b := neg && decide (0 < p)) (n := np) (c := np)
  have hn := HN5.out.put2 hR (.bool (neg && decide (0 < p))) (.slice (some ⟨g4, 0, none⟩) np np)
  have hb := put2_below (u0 := .bool (neg && decide (0 < p))) (u1 := .slice (some ⟨g4, 0, none⟩) np np) HK5.out.bl (show w.heap.size ≤ w.heap.size + 1 + 1 by omega)
  unfold put2 at hpt hn hb
  obtain ⟨_, e0, e1⟩ := hpt
  refine bodyPost_ret (v := .tuple #[.agg #[.bool (neg && decide (0 < p)), .slice (some ⟨g4, 0, none⟩) np np], .int .i64 0]) (by simp [results, Tryz.results61, go_sem, e0, e1]) rfl ⟨_, by rw [HPp.out], by rw [HPp.out]; exact hn, hb⟩

structure DmS (w w' : World) (neg : Bool) (vx vy : Value) (x y : Int) (a b : Nat) : Prop where
  bx : Box3 w' w.heap.size (.bool neg) vx (.int .i64 x)
  by_ : Box3 w' (w.heap.size + 1) (.bool false) vy (.int .i64 y)
  r : Box3 w' (w.heap.size + 1 + 1) (.bool false) (.slice none 0 0) (.int .i64 0)
  da : NatAt w' vx a
  db : NatAt w' vy b
  bl : Below w.heap.size w w'
theorem DmS.below {w w1 w2 : World} {neg : Bool} {vx vy : Value} {x y : Int} {a b : Nat} (h : DmS w w1 neg vx vy x y a b) (hb : Below w1.heap.size w1 w2) : DmS w w2 neg vx vy x y a b :=
  ⟨h.bx.below hb, h.by_.below hb, h.r.below hb, h.da.below hb, h.db.below hb, below_chain h.bl hb⟩
theorem odd_tz {a : Nat} (h : a % 2 = 1) : tz a = 0 := by
  have hz : a ≠ 0 := by intro e; rw [e] at h; omega
  have := odd_split hz
  by_cases h0 : tz a = 0
  · exact h0
  · exfalso
    obtain ⟨k, hk⟩ : ∃ k, tz a = k + 1 := ⟨tz a - 1, by omega⟩
    have h2 := this.2
    rw [hk, Nat.pow_succ] at h2
    have : a % 2 = 0 := by rw [← h2, ← Nat.mul_assoc]; exact Nat.mul_mod_left _ _
    omega
theorem prod_facts {a b : Nat} {neg : Bool} {x y : Int} (ha : a ≠ 0 → a % 2 = 1) (hz : a = 0 → x = 0 ∧ neg = false) (hb : b % 2 = 1) :
    (a * b / 2 ^ tz (a * b) = a * b) ∧ dexp (a * b) (x + y) = (if a = 0 then 0 else x + y) ∧ (neg && decide (0 < a * b)) = neg ∧ (a * b ≠ 0 → tz (a * b) = 0) := by
  have hb0 : b ≠ 0 := by intro e; rw [e] at hb; omega
  by_cases h : a = 0
  · subst h
    obtain ⟨h1, h2⟩ := hz rfl
    refine ⟨by simp, by unfold dexp; simp, by rw [h2]; rfl, by simp⟩
  · have ho : (a * b) % 2 = 1 := by rw [Nat.mul_mod, ha h, hb]
    have hne : a * b ≠ 0 := Nat.mul_ne_zero h hb0
    have ht := odd_tz ho
    refine ⟨by rw [ht]; simp, ?_, ?_, fun _ => ht⟩
    · unfold dexp; rw [if_neg hne, if_neg h, ht]; simp
    · rw [decide_eq_true (Nat.pos_of_ne_zero hne)]; cases neg <;> rfl

set_option maxRecDepth 100000 in
set_option maxHeartbeats 1000000 in
theorem dmul_walk (neg : Bool) (v u : Value) (a b : Nat) (x y z : Int) (w : World) (hzz : (if a = 0 then 0 else x + y) = z) (h : NatAt w v a) (g : NatAt w u b) (ht : Tab64 w) (ha : a ≠ 0 → a % 2 = 1) (hz : a = 0 → x = 0 ∧ neg = false) (hb : b % 2 = 1) (hsa : blen a ≤ 200000) (hsb : blen b ≤ 200000) (x1 : -200000 ≤ x) (x2 : x ≤ 200000) (y1 : -200000 ≤ y) (y2 : y ≤ 200000) :
    Calls Tryz.prog 27 #[.agg #[.bool neg, v, .int .i64 x], .agg #[.bool false, u, .int .i64 y]] w fun e w' => ∃ s, e = .returned (.tuple #[.agg #[.bool neg, s, .int .i64 z], .int .i64 0]) ∧ NatAt w' s (a * b) ∧ Below w.heap.size w w' := by
  have H := Lib.hid h
  have G := Lib.hid g
  have HT := Lib.hid ht
  obtain ⟨A, ca, rfl, hca, hra⟩ := h
  obtain ⟨B, cb, rfl, hcb, hrb⟩ := g
  obtain ⟨la, hla⟩ : ∃ la, (toL a).length = la := ⟨_, rfl⟩
  obtain ⟨lb, hlb⟩ : ∃ lb, (toL b).length = lb := ⟨_, rfl⟩
  have hab : blen (a * b) ≤ 400000 := Nat.le_trans (blen_mul a b) (by omega)
  have hF := prod_facts (y := y) ha hz hb
  rw [hzz] at hF
  have HM := Lib.hid (show (neg = true → a ≠ 0) ∧ (toL a).length ≤ 8192 ∧ (toL b).length ≤ 8192 ∧ (toL (a * b)).length ≤ 8192 ∧ blen (a * b) ≤ 400000 ∧ (a ≠ 0 → a % 2 = 1) ∧ (a = 0 → x = 0) ∧ b % 2 = 1 ∧ blen a ≤ 524288 ∧ blen b ≤ 524288 from
    ⟨fun e e2 => by have := (hz e2).2; rw [e] at this; exact absurd this (by decide), by rw [toL_length]; omega, by rw [toL_length]; omega, by rw [toL_length]; omega, hab, ha, fun e => (hz e).1, hb, by omega, by omega⟩)
  rw [hla] at H ⊢
  rw [hlb] at G ⊢
  have W0 := below_chain (below_chain (below_alloc' w (.cells #[.bool neg, .slice A la ca, .int .i64 x] 46)) (below_alloc' _ (.cells #[.bool false, .slice B lb cb, .int .i64 y] 46))) (below_alloc' _ (.cells #[.bool false, .slice none 0 0, .int .i64 0] 46))
  have K0 : DmS w (((w.alloc (.cells #[.bool neg, .slice A la ca, .int .i64 x] 46)).alloc (.cells #[.bool false, .slice B lb cb, .int .i64 y] 46)).alloc (.cells #[.bool false, .slice none 0 0, .int .i64 0] 46)) neg (.slice A la ca) (.slice B lb cb) x y a b :=
    ⟨⟨by simp [go_sem], by simp [go_sem], by simp [go_sem], by simp [go_sem], by simp [go_sem], by simp [go_sem], by simp [go_sem]⟩, ⟨by simp [go_sem], by simp [go_sem], by simp [go_sem], by simp [go_sem], by simp [go_sem], by simp [go_sem], by simp [go_sem]⟩, ⟨by simp [go_sem], by simp [go_sem], by simp [go_sem], by simp [go_sem], by simp [go_sem], by simp [go_sem], by simp [go_sem]⟩, H.out.below W0, G.out.below W0, W0⟩
  have HK0 := Lib.hid K0
  have HF := Lib.hid hF
  have q1 : IntKind.i64.wrap (x + y) = x + y := by rw [IntKind.wrap_i64]; omega
  clear hra hrb hca hcb hla hlb hz ha hb hab W0 K0 H G hsa hsb hF ht hzz
  go_enter Tryz.func27, Tryz.ntmps27
  go_wp2_with fail
  obtain ⟨w1, hw1⟩ : ∃ w1, (((w.alloc (.cells #[.bool neg, .slice A la ca, .int .i64 x] 46)).alloc (.cells #[.bool false, .slice B lb cb, .int .i64 y] 46)).alloc (.cells #[.bool false, .slice none 0 0, .int .i64 0] 46)) = w1 := ⟨_, rfl⟩
  rw [hw1] at HK0 ⊢
  clear hw1
  refine (dform_walk neg _ a x w1 HK0.out.da HM.out.2.2.2.2.2.2.2.2.1 HM.out.1 (by omega) (by omega) HM.out.2.2.2.2.2.1 HM.out.2.2.2.2.2.2.1).mono ?_
  rintro e w2 ⟨rfl, hb2⟩
  have HK2 := Lib.hid (HK0.out.below hb2)
  obtain ⟨k0, k1, k2, _⟩ := HK2.out.by_
  clear hb2 HK0
  go_wp2_with fail
  refine (dform_walk false _ b y w2 HK2.out.db HM.out.2.2.2.2.2.2.2.2.2 (by simp) (by omega) (by omega) (fun _ => HM.out.2.2.2.2.2.2.2.1) (fun e => by have := HM.out.2.2.2.2.2.2.2.1; rw [e] at this; omega)).mono ?_
  rintro e w3 ⟨rfl, hb3⟩
  have HK3 := Lib.hid (HK2.out.below hb3)
  clear k0 k1 k2
  obtain ⟨k0, k1, k2, _⟩ := HK3.out.by_
  obtain ⟨j0, j1, j2, _⟩ := HK3.out.bx
  clear hb3 HK2
  go_wp2_with fail
  refine (nmul_walk neg _ _ a b w3 HK3.out.da HK3.out.db HM.out.1 HM.out.2.1 HM.out.2.2.1 HM.out.2.2.2.1).mono ?_
  rintro e w4 ⟨s4, rfl, hn4, hb4⟩
  rw [HF.out.2.2.1]
  obtain ⟨p, hp⟩ : ∃ p, a * b = p := ⟨_, rfl⟩
  rw [hp] at HF HM hn4
  have HPp := Lib.hid hp
  have hb5 := below_alloc' w4 (.cells #[.bool neg, s4] 44)
  have HN5 := Lib.hid (hn4.below hb5)
  have HK5 := Lib.hid ((HK3.out.below hb4).below hb5)
  have hX5 : Box2 (w4.alloc (.cells #[.bool neg, s4] 44)) w4.heap.size (.bool neg) s4 := ⟨by simp, by simp, by simp, by simp, by simp⟩
  have HX5 := Lib.hid hX5
  obtain ⟨A4, c4, rfl, hc4, hr4⟩ := hn4
  obtain ⟨n4, hn4⟩ : ∃ n, (toL p).length = n := ⟨_, rfl⟩
  rw [hn4] at HN5 HK5 HX5 ⊢
  clear k0 k1 k2 j0 j1 j2 hb4 hb5 hX5 hc4 hr4 hn4 HK3
  obtain ⟨k0, k1, k2, _⟩ := HK5.out.by_
  obtain ⟨j0, j1, j2, _⟩ := HK5.out.bx
  obtain ⟨i0, i1, _⟩ := HX5.out
  go_wp2_with fail
  obtain ⟨w5, hw5⟩ : ∃ w5, w4.alloc (.cells #[.bool neg, .slice A4 n4 c4] 44) = w5 := ⟨_, rfl⟩
  rw [hw5] at HN5 HK5 ⊢
  clear hw5 k0 k1 k2 j0 j1 j2 i0 i1 HX5
  refine (make_walk neg _ p (x + y) w5 HN5.out (HT.out.below HK5.out.bl) (by have := HM.out; omega) (fun e => by have h1 := HM.out.1 e; have h2 := HM.out.2.2.2.2.2.1 h1; have h3 := HM.out.2.2.2.2.2.2.2.1; rw [← hp]; exact Nat.mul_ne_zero h1 (by intro e; rw [e] at h3; omega)) (by omega) (by omega) (fun h => by rw [HF.out.2.2.2 h]; omega) (fun h => by rw [HF.out.2.2.2 h]; omega)).mono ?_
  rintro e w6 ⟨s6, rfl, hn6, hb6⟩
  rw [HF.out.1] at hn6
  rw [HF.out.2.1]
  have HN6 := Lib.hid hn6
  have HK6 := Lib.hid (HK5.out.below hb6)
  obtain ⟨A6, c6, rfl, hc6, hr6⟩ := hn6
  obtain ⟨n6, hn6⟩ : ∃ n, (toL p).length = n := ⟨_, rfl⟩
  rw [hn6] at HN6 ⊢
  obtain ⟨r0, r1, r2, r3, r4, r5, r6⟩ := HK6.out.r
  clear hb6 hc6 hr6 hn6 HK5 HN5 hp HF HM
  go_wp2
  have hpt := HK6.out.r.put (u0 := .bool neg) (u1 := .slice A6 n6 c6) (u2 := .int .i64 z)
  have hn := HN6.out.put3 HK6.out.r (by simp) (by simp) (by simp) (.bool neg) (.slice A6 n6 c6) (.int .i64 z)
  have hb := put3_below (u0 := .bool neg) (u1 := .slice A6 n6 c6) (u2 := .int .i64 z) HK6.out.bl (show w.heap.size ≤ w.heap.size + 1 + 1 by omega)
  unfold put3 at hpt hn hb
  obtain ⟨e0, e1, e2, _⟩ := hpt
  refine bodyPost_ret (v := .tuple #[.agg #[.bool neg, .slice A6 n6 c6, .int .i64 z], .int .i64 0]) (by simp [results, Tryz.results27, go_sem, e0, e1, e2]) rfl ⟨_, rfl, by rw [HPp.out]; exact hn, hb⟩

set_option maxRecDepth 100000 in
theorem llimbs_walk (x : Nat) (hx : x < 18446744073709551616) (w : World) :
    Calls Tryz.prog 25 #[.int .u64 (x : Int)] w fun e w' => ∃ v, e = .returned v ∧ NatAt w' v x ∧ Below w.heap.size w w' := by
  by_cases h : x = 0
  · subst h
    have h1 : (((0 : Nat) : Int) == 0) = true := rfl
    go_enter Tryz.func25, Tryz.ntmps25
    go_wp2
    go_ret
    exact ⟨_, rfl, NatAt.nil _, Below.refl _ _⟩
  · have h1 : ((x : Int) == 0) = false := by rw [beq_eq_false_iff_ne]; omega
    have hx' : x < W64 := by rw [W64_num]; exact hx
    have hl : toL x = [x] := by rw [toL_pos h, Nat.mod_eq_of_lt hx', Nat.div_eq_of_lt hx', toL_zero]
    have HB := Lib.hid (hl ▸ Blk.new w (toL x) : Blk (w.alloc (.cells (U [x]) 22)) w.heap.size [x])
    have HL := Lib.hid hl
    clear h hx hx' hl
    go_enter Tryz.func25, Tryz.ntmps25
    go_wp2
    go_ret
    refine ⟨_, rfl, ?_, (Below.refl _ _).alloc (Nat.le_refl _) _⟩
    exact ⟨_, 1, by rw [HL.out]; rfl, by rw [HL.out]; simp, by rw [HL.out]; exact HB.out.read⟩

set_option maxRecDepth 100000 in
set_option maxHeartbeats 1000000 in
theorem lten_walk (n : Nat) (hn : n ≤ 2000) (w : World) (ht : Tab64 w) :
    Calls Tryz.prog 23 #[.int .i64 (n : Int)] w fun e w' => ∃ (s : Value) (o u : Nat), e = .returned (.tuple #[.agg #[.bool false, s, .int .i64 (u : Int)], .bool true]) ∧ NatAt w' s o ∧ o % 2 = 1 ∧ o * 2 ^ u = 10 ^ n ∧ blen o ≤ 8001 ∧ u ≤ 8001 ∧ Below w.heap.size w w' := by
  have HT := Lib.hid ht
  have HN := Lib.hid hn
  have hl : toL 10 = [10] := by rw [toL_pos (by omega), Nat.mod_eq_of_lt (by rw [W64_num]; omega), Nat.div_eq_of_lt (by rw [W64_num]; omega), toL_zero]
  have hb0 := below_alloc' w (.cells #[.bool false, .slice none 0 0, .int .i64 0] 46)
  have hR0 : Box3 (w.alloc (.cells #[.bool false, .slice none 0 0, .int .i64 0] 46)) w.heap.size (.bool false) (.slice none 0 0) (.int .i64 0) := ⟨by simp, by simp, by simp, by simp, by simp, by simp, by simp⟩
  have hb1 := below_alloc' (w.alloc (.cells #[.bool false, .slice none 0 0, .int .i64 0] 46)) (.cells (U [10]) 22)
  have hB := (hl ▸ Blk.new (w.alloc (.cells #[.bool false, .slice none 0 0, .int .i64 0] 46)) (toL 10) : Blk ((w.alloc (.cells #[.bool false, .slice none 0 0, .int .i64 0] 46)).alloc (.cells (U [10]) 22)) (w.alloc (.cells #[.bool false, .slice none 0 0, .int .i64 0] 46)).heap.size [10])
  have hsz : (w.alloc (.cells #[.bool false, .slice none 0 0, .int .i64 0] 46)).heap.size = w.heap.size + 1 := by simp
  have hU : U [10] = #[.int .u64 10] := rfl
  have HNt : Hid (NatAt ((w.alloc (.cells #[.bool false, .slice none 0 0, .int .i64 0] 46)).alloc (.cells #[.int .u64 10] 22)) (.slice (some ⟨w.heap.size + 1, 0, none⟩) 1 1) 10) := Lib.hid (by
    rw [← hU]
    rw [hsz] at hB
    exact ⟨_, 1, by rw [hl]; rfl, by rw [hl]; simp, by rw [hl]; exact hB.read⟩)
  rw [hU] at hb1
  have HR1 := Lib.hid (hR0.below hb1)
  have HW1 := Lib.hid (below_chain hb0 hb1)
  clear hl hb0 hR0 hb1 hB hsz hU ht
  go_enter Tryz.func23, Tryz.ntmps23
  go_wp2_with fail
  obtain ⟨w1, hw1⟩ : ∃ w1, (w.alloc (.cells #[.bool false, .slice none 0 0, .int .i64 0] 46)).alloc (.cells #[.int .u64 10] 22) = w1 := ⟨_, rfl⟩
  rw [hw1] at HNt HR1 HW1 ⊢
  clear hw1
  refine (pow_walk _ 10 n w1 HNt.out (by rw [blen_ten]; omega) (by rw [blen_ten]; omega) (by rw [toL_length, blen_ten]; omega)).mono ?_
  rintro e w2 ⟨v2, g2, rfl, ho2, _, hb2⟩
  have HN2 := Lib.hid ho2.nat
  have HR2 := Lib.hid (HR1.out.below hb2)
  have HW2 := Lib.hid (below_chain HW1.out hb2)
  have hbt := blen_pow_ten n
  have h10 : 10 ^ n ≠ 0 := by have := Nat.pow_pos (n := n) (show 0 < 10 by omega); omega
  obtain ⟨rest, rfl, _⟩ := ho2
  obtain ⟨t, htt⟩ : ∃ t, 10 ^ n = t := ⟨_, rfl⟩
  rw [htt] at HN2 hbt h10 ⊢
  obtain ⟨n2, hn2⟩ : ∃ n, (toL t).length = n := ⟨_, rfl⟩
  rw [hn2] at HN2 ⊢
  have HM := Lib.hid (show blen t ≤ 8001 ∧ t ≠ 0 from ⟨by omega, h10⟩)
  have HTt := Lib.hid htt
  clear hb2 HR1 HW1 HNt hn2 htt hbt h10 hn
  go_wp2_with fail
  refine (make_whole _ t w2 HN2.out (HT.out.below HW2.out) (by have := HM.out; omega) HM.out.2).mono ?_
  rintro e w3 ⟨s3, o, u, rfl, hn3, ho3, hou, hbo, hu3, hb3⟩
  have hb4 := below_alloc' w3 (.cells #[.bool false, s3, .int .i64 (u : Int)] 46)
  have HN4 := Lib.hid (hn3.below hb4)
  have HR4 := Lib.hid ((HR2.out.below hb3).below hb4)
  have HW4 := Lib.hid (below_chain (below_chain HW2.out hb3) hb4)
  have HO := Lib.hid (show o % 2 = 1 ∧ o * 2 ^ u = t ∧ blen o ≤ 8001 ∧ u ≤ 8001 from ⟨ho3, hou, by have := HM.out; omega, by have := HM.out; omega⟩)
  obtain ⟨A3, c3, rfl, hc3, hr3⟩ := hn3
  obtain ⟨n3, hn3⟩ : ∃ n, (toL o).length = n := ⟨_, rfl⟩
  rw [hn3] at HN4 HR4 HW4 ⊢
  have hY4 : Box3 (w3.alloc (.cells #[.bool false, .slice A3 n3 c3, .int .i64 (u : Int)] 46)) w3.heap.size (.bool false) (.slice A3 n3 c3) (.int .i64 (u : Int)) := ⟨by simp, by simp, by simp, by simp, by simp, by simp, by simp⟩
  obtain ⟨y0, y1, y2, _⟩ := hY4
  obtain ⟨r0, r1, r2, r3, r4, r5, r6⟩ := HR4.out
  clear hb3 hb4 hc3 hr3 hn3 ho3 hou hbo hu3 HR2 HW2 HN2
  go_wp2
  obtain ⟨w4, hw4⟩ : ∃ w4, w3.alloc (.cells #[.bool false, .slice A3 n3 c3, .int .i64 (u : Int)] 46) = w4 := ⟨_, rfl⟩
  rw [hw4] at HN4 HR4 HW4 ⊢
  have hpt := HR4.out.put (u0 := .bool false) (u1 := .slice A3 n3 c3) (u2 := .int .i64 (u : Int))
  have hn := HN4.out.put3 HR4.out (by simp) (by simp) (by simp) (.bool false) (.slice A3 n3 c3) (.int .i64 (u : Int))
  have hb := put3_below (u0 := .bool false) (u1 := .slice A3 n3 c3) (u2 := .int .i64 (u : Int)) HW4.out (Nat.le_refl w.heap.size)
  unfold put3 at hpt hn hb
  obtain ⟨e0, e1, e2, _⟩ := hpt
  refine bodyPost_ret (v := .tuple #[.agg #[.bool false, .slice A3 n3 c3, .int .i64 (u : Int)], .bool true]) (by simp [results, Tryz.results23, go_sem, e0, e1, e2]) rfl ⟨_, o, u, rfl, hn, HO.out.1, by rw [HO.out.2.1, HTt.out], HO.out.2.2.1, HO.out.2.2.2, hb⟩
end Go.Proofs.YtmfjimmodaofdaaGreatDoor
