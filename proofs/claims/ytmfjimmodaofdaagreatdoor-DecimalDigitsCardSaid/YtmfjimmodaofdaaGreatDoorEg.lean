/- Walks of decimal: in10, (ratio).cmp. -/
import Derived.Test.YtmfjimmodaofdaaGreatDoorEd
import Derived.Test.YtmfjimmodaofdaaGreatDoorGn
import Derived.Test.YtmfjimmodaofdaaGreatDoorGr
namespace Go.Proofs.YtmfjimmodaofdaaGreatDoor
open Go.RowKit

/-- m * 2^x in units of 10^q, as a fraction. -/
def inA (m : Nat) (x q : Int) : Nat := m * 2 ^ x.toNat * 10 ^ (-q).toNat
def inB (x q : Int) : Nat := 10 ^ q.toNat * 2 ^ (-x).toNat
theorem inB_pos (x q : Int) : 0 < inB x q := Nat.mul_pos (Nat.pow_pos (by omega)) (Nat.two_pow_pos _)
theorem blen_mul (a b : Nat) : blen (a * b) ≤ blen a + blen b := by
  refine blen_le.2 ?_
  rw [Nat.pow_add]
  exact Nat.mul_lt_mul'' (blen_hi a) (blen_hi b)
theorem blen_pow_two (n : Nat) : blen (2 ^ n) ≤ n + 1 := blen_le.2 (Nat.pow_lt_pow_right (by omega) (by omega))
theorem inA_blen {m : Nat} {x q : Int} (hm : blen m ≤ 64) (hx : x ≤ 1500) (hq : -1500 ≤ q) : blen (m * 2 ^ x.toNat) ≤ 1600 ∧ blen (10 ^ (-q).toNat) ≤ 6001 ∧ blen (inA m x q) ≤ 7601 := by
  have h1 := blen_mul m (2 ^ x.toNat)
  have h2 := blen_pow_two x.toNat
  have h3 := blen_pow_ten (-q).toNat
  have h4 := blen_mul (m * 2 ^ x.toNat) (10 ^ (-q).toNat)
  unfold inA
  omega
theorem inB_blen {x q : Int} (hx : -1500 ≤ x) (hq : q ≤ 1500) : blen (10 ^ q.toNat) ≤ 6001 ∧ blen (inB x q) ≤ 7601 := by
  have h2 := blen_pow_two (-x).toNat
  have h3 := blen_pow_ten q.toNat
  have h4 := blen_mul (10 ^ q.toNat) (2 ^ (-x).toNat)
  unfold inB
  omega
structure InS (w w' : World) (v : Value) (m : Nat) (x : Int) (va : Value) (a : Nat) : Prop where
  c0 : w'.cell? ⟨w.heap.size, 0, none⟩ = some (.bool false)
  c1 : w'.cell? ⟨w.heap.size, 1, none⟩ = some v
  c2 : w'.cell? ⟨w.heap.size, 2, none⟩ = some (.int .i64 x)
  r : Box2 w' (w.heap.size + 1) (.slice none 0 0) (.slice none 0 0)
  nm : NatAt w' v m
  na : NatAt w' va a
  bl : Below w.heap.size w w'
theorem InS.below {w w1 w2 : World} {v : Value} {m : Nat} {x : Int} {va : Value} {a : Nat} (h : InS w w1 v m x va a) (hb : Below w1.heap.size w1 w2) : InS w w2 v m x va a :=
  ⟨cell_kept hb h.c0, cell_kept hb h.c1, cell_kept hb h.c2, h.r.below hb, h.nm.below hb, h.na.below hb, below_chain h.bl hb⟩

set_option maxRecDepth 100000 in
set_option maxHeartbeats 1000000 in
theorem in10_walk (s : Value) (m : Nat) (x q : Int) (w : World) (h : NatAt w s m) (hm : blen m ≤ 64) (hx1 : -1500 ≤ x) (hx2 : x ≤ 1500) (hq1 : -1500 ≤ q) (hq2 : q ≤ 1500) :
    Calls Tryz.prog 66 #[.agg #[.bool false, s, .int .i64 x], .int .i64 q] w fun e w' => ∃ va vb, e = .returned (.agg #[va, vb]) ∧ NatAt w' va (inA m x q) ∧ NatAt w' vb (inB x q) ∧ Below w.heap.size w w' := by
  obtain ⟨b1, b2, b3⟩ := inA_blen (q := q) hm hx2 hq1
  obtain ⟨b4, b5⟩ := inB_blen (x := x) (q := q) hx1 hq2
  have l1 : ∀ a, blen a ≤ 8000 → (toL a).length ≤ 8192 := fun a ha => by rw [toL_length]; omega
  have H := Lib.hid h
  obtain ⟨A, c, rfl, hc, hr⟩ := h
  obtain ⟨n, hn⟩ : ∃ n, (toL m).length = n := ⟨_, rfl⟩
  rw [hn] at H ⊢
  obtain ⟨xp, hxp⟩ : ∃ k, x.toNat = k := ⟨_, rfl⟩
  obtain ⟨xm, hxm⟩ : ∃ k, (-x).toNat = k := ⟨_, rfl⟩
  obtain ⟨qp, hqp⟩ : ∃ k, q.toNat = k := ⟨_, rfl⟩
  obtain ⟨qm, hqm⟩ : ∃ k, (-q).toNat = k := ⟨_, rfl⟩
  have HIA := Lib.hid (show inA m x q = m * 2 ^ xp * 10 ^ qm by unfold inA; rw [hxp, hqm])
  have HIB := Lib.hid (show inB x q = 10 ^ qp * 2 ^ xm by unfold inB; rw [hqp, hxm])
  rw [hxp] at b1
  rw [hqm] at b2
  rw [hqp] at b4
  rw [HIA.out] at b3
  rw [HIB.out] at b5
  have HB := Lib.hid (show blen (m * 2 ^ xp) ≤ 1600 ∧ blen (10 ^ qm) ≤ 6001 ∧ blen (m * 2 ^ xp * 10 ^ qm) ≤ 7601 ∧ blen (10 ^ qp) ≤ 6001 ∧ blen (10 ^ qp * 2 ^ xm) ≤ 7601 ∧ blen m ≤ 64 ∧ xp ≤ 1500 ∧ xm ≤ 1500 ∧ qp ≤ 1500 ∧ qm ≤ 1500 from ⟨b1, b2, b3, b4, b5, hm, by omega, by omega, by omega, by omega⟩)
  have HL := Lib.hid l1
  have p1 : max x 0 = (xp : Int) := by omega
  have p2 : max (-q) 0 = (qm : Int) := by omega
  have p3 : max q 0 = (qp : Int) := by omega
  have p4 : max (-x) 0 = (xm : Int) := by omega
  have p5 : IntKind.i64.wrap (-q) = -q := by rw [IntKind.wrap_i64]; omega
  have p6 : IntKind.i64.wrap (-x) = -x := by rw [IntKind.wrap_i64]; omega
  have p7 : max (IntKind.i64.wrap (-x)) 0 = (xm : Int) := by rw [p6]; exact p4
  have hw := below_chain (below_alloc' w (.cells #[.bool false, .slice A n c, .int .i64 x] 46)) (below_alloc' _ (.cells #[.slice none 0 0, .slice none 0 0] 109))
  have HS0 := Lib.hid (show InS w ((w.alloc (.cells #[.bool false, .slice A n c, .int .i64 x] 46)).alloc (.cells #[.slice none 0 0, .slice none 0 0] 109)) (.slice A n c) m x (.slice A n c) m from
    ⟨by simp, by simp, by simp, ⟨by simp, by simp, by simp, by simp, by simp⟩, H.out.below hw, H.out.below hw, hw⟩)
  clear b1 b2 b3 b4 b5 l1 hr hc hn hxp hxm hqp hqm hm hx1 hx2 hq1 hq2 hw H
  go_enter Tryz.func66, Tryz.ntmps66
  go_wp2_with fail
  obtain ⟨w1, hw1⟩ : ∃ w1, (w.alloc (.cells #[.bool false, .slice A n c, .int .i64 x] 46)).alloc (.cells #[.slice none 0 0, .slice none 0 0] 109) = w1 := ⟨_, rfl⟩
  rw [hw1] at HS0 ⊢
  clear hw1
  try rw [p1]
  refine (shl_walk _ m (xp : Int) w1 HS0.out.nm (by omega) (by have := HB.out; omega)).mono ?_
  rintro e w2 ⟨v2, rfl, hn2, hb2⟩
  rw [Int.toNat_natCast] at hn2
  have HN2 := Lib.hid hn2
  have HS2 := Lib.hid (HS0.out.below hb2)
  obtain ⟨A2, c2, rfl, hc2, hr2⟩ := hn2
  obtain ⟨n2, hn2⟩ : ∃ n, (toL (m * 2 ^ xp)).length = n := ⟨_, rfl⟩
  rw [hn2] at HN2 ⊢
  clear hb2 hc2 hr2 hn2 HS0
  go_wp2_with fail
  try rw [p2]
  refine (ten_walk qm (by have := HB.out; omega) w2).mono ?_
  rintro e w3 ⟨v3, rfl, hn3, hb3⟩
  have HN3 := Lib.hid hn3
  have HN23 := Lib.hid (HN2.out.below hb3)
  have HS3 := Lib.hid (HS2.out.below hb3)
  clear hn3 hb3 HS2 HN2
  go_wp2_with fail
  refine (mul_walk _ _ (m * 2 ^ xp) (10 ^ qm) w3 HN23.out HN3.out (HL.out _ (by have := HB.out; omega)) (HL.out _ (by have := HB.out; omega)) (HL.out _ (by have := HB.out; omega))).mono ?_
  rintro e w4 ⟨v4, g4, rfl, ho4, _, hb4⟩
  have hn4 := ho4.nat
  rw [← HIA.out] at hn4
  have HS4 := Lib.hid (show InS w w4 (.slice A n c) m x v4 (inA m x q) from ⟨(HS3.out.below hb4).c0, (HS3.out.below hb4).c1, (HS3.out.below hb4).c2, (HS3.out.below hb4).r, (HS3.out.below hb4).nm, hn4, (HS3.out.below hb4).bl⟩)
  obtain ⟨rest, rfl, _⟩ := ho4
  rw [← HIA.out] at HS4 ⊢
  obtain ⟨n4, hn4⟩ : ∃ n, (toL (inA m x q)).length = n := ⟨_, rfl⟩
  rw [hn4] at HS4 ⊢
  have HSd := Lib.hid (HS4.out.below (below_draw' w4))
  have c2' := HS4.out.c2
  clear hb4 HS3 HN3 HN23 hn4
  go_wp2_with fail
  go_region_held3 (fun w' => w'.cell? ⟨w.heap.size, 2, none⟩ = some (.int .i64 x) ∧ Hid (InS w w' (.slice A n c) m x (.slice (some ⟨g4, 0, none⟩) n4 n4) (inA m x q)))
    (first | exact ⟨HSd.out.c2, HSd⟩ | (go_split_ands; (have K5 : InS w w5 (.slice A n c) m x (.slice (some ⟨g4, 0, none⟩) n4 n4) (inA m x q) := InS.below (Hid.out (by assumption)) hb5); exact ⟨K5.c2, Lib.hid K5⟩))
    (first | (go_split_ands; go_at_call 91; (try rw [p3]); refine (ten_walk qp (by have := HB.out; omega) _).mono ?_; rintro e w5 ⟨v5, rfl, hn5, hb5⟩; (have HN5 := Lib.hid hn5); clear hn5) | (go_split_ands; go_at_call 56; (try rw [p7]); refine (shl_walk _ (10 ^ qp) (xm : Int) _ HN5.out (by omega) (by have := HB.out; omega)).mono ?_; rintro e w5 ⟨v6, rfl, hn6, hb5⟩; (have HN6 := Lib.hid hn6); clear hn6))
  all_goals
    have HS5 : Hid (InS w w5 (.slice A n c) m x (.slice (some ⟨g4, 0, none⟩) n4 n4) (inA m x q)) := Lib.hid (by go_split_ands; exact InS.below (Hid.out (by assumption)) hb5)
    have HN7 := Lib.hid (show NatAt w5 v6 (inB x q) by rw [HIB.out]; exact HN6.out)
    clear HSd HS4 HN6 hb5 p1 p2 p3 p4 p5 p6 p7
    obtain ⟨A6, c6, rfl, hc6, hr6⟩ := HN7.out
    obtain ⟨n6, hn6⟩ : ∃ n, (toL (inB x q)).length = n := ⟨_, rfl⟩
    rw [hn6] at HN7 ⊢
    clear hc6 hr6 hn6
    obtain ⟨r0, r1, r2, r3, r4⟩ := HS5.out.r
    have hR : AnyR w5 (w.heap.size + 1) := ⟨⟨_, _, r0, r1, by simp, by simp⟩, r2, r3, r4⟩
    have q0 : (put2 w5 (w.heap.size + 1) (.slice (some ⟨g4, 0, none⟩) n4 n4) (.slice A6 n6 c6)).cell? ⟨w.heap.size + 1, 0, none⟩ = some (.slice (some ⟨g4, 0, none⟩) n4 n4) := by
      unfold put2; rw [cell_other (by simp)]; exact World.cell?_setCell_same' _ _ _ (by rw [r0]; rfl)
    have q1 : (put2 w5 (w.heap.size + 1) (.slice (some ⟨g4, 0, none⟩) n4 n4) (.slice A6 n6 c6)).cell? ⟨w.heap.size + 1, 1, none⟩ = some (.slice A6 n6 c6) := World.cell?_setCell_same' _ _ _ (by rw [cell_other (by simp), r1]; rfl)
    have na := HS5.out.na.put2 hR (.slice (some ⟨g4, 0, none⟩) n4 n4) (.slice A6 n6 c6)
    have nb := HN7.out.put2 hR (.slice (some ⟨g4, 0, none⟩) n4 n4) (.slice A6 n6 c6)
    have bl := put2_below (u0 := .slice (some ⟨g4, 0, none⟩) n4 n4) (u1 := .slice A6 n6 c6) HS5.out.bl (show w.heap.size ≤ w.heap.size + 1 by omega)
    unfold put2 at q0 q1 na nb bl
    have HNa := Lib.hid na
    have HNb := Lib.hid nb
    have HBl := Lib.hid bl
    clear na nb bl hR HS5 HN7
    go_wp2
    exact bodyPost_ret (v := .agg #[.slice (some ⟨g4, 0, none⟩) n4 n4, .slice A6 n6 c6]) (by simp [results, Tryz.results66, go_sem, q0, q1]) rfl ⟨_, _, rfl, HNa.out, HNb.out, HBl.out⟩

set_option maxRecDepth 100000 in
theorem rcmp_walk (va vb vd : Value) (a b d : Nat) (w : World) (ha : NatAt w va a) (hb : NatAt w vb b) (hd : NatAt w vd d) (h1 : blen a ≤ 60000) (h2 : blen b ≤ 60000) (h3 : blen d ≤ 60000) :
    Calls Tryz.prog 85 #[.agg #[va, vb], vd] w fun e w' => e = .returned (.int .i64 (cmpI (d * b) a)) ∧ Below w.heap.size w w' := by
  have h4 := blen_mul d b
  have l1 : ∀ a, blen a ≤ 130000 → (toL a).length ≤ 8192 := fun a ha => by rw [toL_length]; omega
  have HL := Lib.hid (show (toL a).length ≤ 8192 ∧ (toL b).length ≤ 8192 ∧ (toL d).length ≤ 8192 ∧ (toL (d * b)).length ≤ 8192 from ⟨l1 _ (by omega), l1 _ (by omega), l1 _ (by omega), l1 _ (by omega)⟩)
  have HA := Lib.hid ha
  have HB := Lib.hid hb
  have HD := Lib.hid hd
  obtain ⟨A, ca, rfl, hca, hra⟩ := ha
  obtain ⟨B, cb, rfl, hcb, hrb⟩ := hb
  obtain ⟨na, hna⟩ : ∃ n, (toL a).length = n := ⟨_, rfl⟩
  obtain ⟨nb, hnb⟩ : ∃ n, (toL b).length = n := ⟨_, rfl⟩
  rw [hna] at HA ⊢
  rw [hnb] at HB ⊢
  have hw := below_alloc' w (.cells #[.slice A na ca, .slice B nb cb] 109)
  have hX : Box2 (w.alloc (.cells #[.slice A na ca, .slice B nb cb] 109)) w.heap.size (.slice A na ca) (.slice B nb cb) := ⟨by simp, by simp, by simp, by simp, by simp⟩
  have HX := Lib.hid hX
  have HA1 := Lib.hid (HA.out.below hw)
  have HB1 := Lib.hid (HB.out.below hw)
  have HD1 := Lib.hid (HD.out.below hw)
  have HW := Lib.hid hw
  clear hca hra hcb hrb hna hnb h1 h2 h3 h4 l1 hX hw HA HB HD hd
  go_enter Tryz.func85, Tryz.ntmps85
  go_wp2_with fail
  obtain ⟨w1, hw1⟩ : ∃ w1, w.alloc (.cells #[.slice A na ca, .slice B nb cb] 109) = w1 := ⟨_, rfl⟩
  rw [hw1] at HX HA1 HB1 HD1 HW ⊢
  clear hw1
  refine (mul_walk _ _ d b w1 HD1.out HB1.out HL.out.2.2.1 HL.out.2.1 HL.out.2.2.2).mono ?_
  rintro e w2 ⟨v2, g2, rfl, ho2, _, hb2⟩
  have HN2 := Lib.hid ho2.nat
  have HA2 := Lib.hid (HA1.out.below hb2)
  have HW2 := Lib.hid (below_chain HW.out hb2)
  obtain ⟨x0, x1, x2, x3, x4⟩ := HX.out.below hb2
  obtain ⟨rest, rfl, _⟩ := ho2
  obtain ⟨p, hp⟩ : ∃ p, d * b = p := ⟨_, rfl⟩
  rw [hp] at HN2 HL ⊢
  have HPp := Lib.hid hp
  clear hb2 HX HA1 HB1 HD1 HW hp
  go_wp2_with fail
  refine (cmp_walk _ _ p a w2 HN2.out HA2.out (by have := HL.out; omega) (by have := HL.out; omega)).mono ?_
  rintro e w3 ⟨rfl, hq⟩
  have HW3 := Lib.hid (below_chain HW2.out (drewn_below hq))
  clear hq
  go_wp2
  go_ret
  exact ⟨by rw [HPp.out]; rfl, HW3.out⟩
end Go.Proofs.YtmfjimmodaofdaaGreatDoor
