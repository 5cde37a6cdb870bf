/- Walks of decimal: in10, (ratio).cmp. · Plain facts: a number of a format between powers of ten; which decimals fall into a pattern's cell. No program in sight. · Plain facts: the exponent of ten of a number; the shortest decimal in a cell is found with 17 digits. No program in sight. -/
import Derived.Test.YtibjogbalmbeeaaGreatDoorU22
import Derived.Test.YtibjogbalmbeeaaGreatDoorU27
import Derived.Test.YtibjogbalmbeeaaGreatDoorU13
import Derived.Test.YtibjogbalmbeeaaGreatDoorU12

namespace Go.Proofs.YtibjogbalmbeeaaGreatDoor
open Go.RowKit

/-- m * 2^x in units of 10^q, as a fraction. -/
def inA (m : Nat) (x q : Int) : Nat := m * 2 ^ x.toNat * 10 ^ (-q).toNat
def inB (x q : Int) : Nat := 10 ^ q.toNat * 2 ^ (-x).toNat
theorem inB_pos (x q : Int) : 0 < inB x q := Nat.mul_pos (Nat.pow_pos (by omega)) (Nat.two_pow_pos _)
theorem blen_mul (a b : Nat) : blen (a * b) ≤ blen a + blen b := by
  refine blen_le.2 ?_
  rw [Nat.pow_add]
  exact Nat.mul_lt_mul'' (blen_hi a) (blen_hi b)
theorem blen_pow_two (n : Nat) : blen (2 ^ n) ≤ n + 1 := blen_le.2 (Nat.pow_lt_pow_right (by omega) (by omega))
theorem inA_blen {m : Nat} {x q : Int} (hm : blen m ≤ 64) (hx : x ≤ 1500) (hq : -1500 ≤ q) : blen (m * 2 ^ x.toNat) ≤ 1600 ∧ blen (10 ^ (-q).toNat) ≤ 6001 ∧ blen (inA m x q) ≤ 7601 := by
  have h1 := blen_mul m (2 ^ x.toNat)
  have h2 := blen_pow_two x.toNat
  have h3 := blen_pow_ten (-q).toNat
  have h4 := blen_mul (m * 2 ^ x.toNat) (10 ^ (-q).toNat)
  unfold inA
  omega
theorem inB_blen {x q : Int} (hx : -1500 ≤ x) (hq : q ≤ 1500) : blen (10 ^ q.toNat) ≤ 6001 ∧ blen (inB x q) ≤ 7601 := by
  have h2 := blen_pow_two (-x).toNat
  have h3 := blen_pow_ten q.toNat
  have h4 := blen_mul (10 ^ q.toNat) (2 ^ (-x).toNat)
  unfold inB
  omega
structure InS (w w' : World) (v : Value) (m : Nat) (x : Int) (va : Value) (a : Nat) : Prop where
  c0 : w'.cell? ⟨w.heap.size, 0, none⟩ = some (.bool false)
  c1 : w'.cell? ⟨w.heap.size, 1, none⟩ = some v
  c2 : w'.cell? ⟨w.heap.size, 2, none⟩ = some (.int .i64 x)
  r : Box2 w' (w.heap.size + 1) (.slice none 0 0) (.slice none 0 0)
  nm : NatAt w' v m
  na : NatAt w' va a
  bl : Below w.heap.size w w'
theorem InS.below {w w1 w2 : World} {v : Value} {m : Nat} {x : Int} {va : Value} {a : Nat} (h : InS w w1 v m x va a) (hb : Below w1.heap.size w1 w2) : InS w w2 v m x va a :=
  ⟨cell_kept hb h.c0, cell_kept hb h.c1, cell_kept hb h.c2, h.r.below hb, h.nm.below hb, h.na.below hb, below_chain h.bl hb⟩

set_option maxRecDepth 100000 in
set_option maxHeartbeats 1000000 in
theorem in10_walk (s : Value) (m : Nat) (x q : Int) (w : World) (h : NatAt w s m) (hm : blen m ≤ 64) (hx1 : -1500 ≤ x) (hx2 : x ≤ 1500) (hq1 : -1500 ≤ q) (hq2 : q ≤ 1500) :
    Calls Tryz.prog 37 #[.agg #[.bool false, s, .int .i64 x], .int .i64 q] w fun e w' => ∃ va vb, e = .returned (.agg #[va, vb]) ∧ NatAt w' va (inA m x q) ∧ NatAt w' vb (inB x q) ∧ Below w.heap.size w w' := by
  obtain ⟨b1, b2, b3⟩ := inA_blen (q := q) hm hx2 hq1
  obtain ⟨b4, b5⟩ := inB_blen (x := x) (q := q) hx1 hq2
  have l1 : ∀ a, blen a ≤ 8000 → (toL a).length ≤ 8192 := fun a ha => by rw [toL_length]; omega
  have H := Lib.hid h
  obtain ⟨A, c, rfl, hc, hr⟩ := h
  obtain ⟨n, hn⟩ : ∃ n, (toL m).length = n := ⟨_, rfl⟩
  rw [hn] at H ⊢
  obtain ⟨xp, hxp⟩ : ∃ k, x.toNat = k := ⟨_, rfl⟩
  obtain ⟨xm, hxm⟩ : ∃ k, (-x).toNat = k := ⟨_, rfl⟩
  obtain ⟨qp, hqp⟩ : ∃ k, q.toNat = k := ⟨_, rfl⟩
  obtain ⟨qm, hqm⟩ : ∃ k, (-q).toNat = k := ⟨_, rfl⟩
  have HIA := Lib.hid (show inA m x q = m * 2 ^ xp * 10 ^ qm by unfold inA; rw [hxp, hqm])
  have HIB := Lib.hid (show inB x q = 10 ^ qp * 2 ^ xm by unfold inB; rw [hqp, hxm])
  rw [hxp] at b1
  rw [hqm] at b2
  rw [hqp] at b4
  rw [HIA.out] at b3
  rw [HIB.out] at b5
  have HB := Lib.hid (show blen (m * 2 ^ xp) ≤ 1600 ∧ blen (10 ^ qm) ≤ 6001 ∧ blen (m * 2 ^ xp * 10 ^ qm) ≤ 7601 ∧ blen (10 ^ qp) ≤ 6001 ∧ blen (10 ^ qp * 2 ^ xm) ≤ 7601 ∧ blen m ≤ 64 ∧ xp ≤ 1500 ∧ xm ≤ 1500 ∧ qp ≤ 1500 ∧ qm ≤ 1500 from ⟨b1, b2, b3, b4, b5, hm, by omega, by omega, by omega, by omega⟩)
  have HL := Lib.hid l1
  have p1 : max x 0 = (xp : Int) := by omega
  have p2 : max (-q) 0 = (qm : Int) := by omega
  have p3 : max q 0 = (qp : Int) := by omega
  have p4 : max (-x) 0 = (xm : Int) := by omega
  have p5 : IntKind.i64.wrap (-q) = -q := by rw [IntKind.wrap_i64]; omega
  have p6 : IntKind.i64.wrap (-x) = -x := by rw [IntKind.wrap_i64]; omega
  have p7 : max (IntKind.i64.wrap (-x)) 0 = (xm : Int) := by rw [p6]; exact p4
  have hw := below_chain (below_alloc' w (.cells #[.bool false, .slice A n c, .int .i64 x] 86)) (below_alloc' _ (.cells #[.slice none 0 0, .slice none 0 0] 95))
  have HS0 := Lib.hid (show InS w ((w.alloc (.cells #[.bool false, .slice A n c, .int .i64 x] 86)).alloc (.cells #[.slice none 0 0, .slice none 0 0] 95)) (.slice A n c) m x (.slice A n c) m from
    ⟨by simp, by simp, by simp, ⟨by simp, by simp, by simp, by simp, by simp⟩, H.out.below hw, H.out.below hw, hw⟩)
  clear b1 b2 b3 b4 b5 l1 hr hc hn hxp hxm hqp hqm hm hx1 hx2 hq1 hq2 hw H
  go_enter Tryz.func37, Tryz.ntmps37
  go_wp2_with fail
  obtain ⟨w1, hw1⟩ : ∃ w1, (w.alloc (.cells #[.bool false, .slice A n c, .int .i64 x] 86)).alloc (.cells #[.slice none 0 0, .slice none 0 0] 95) = w1 := ⟨_, rfl⟩
  rw [hw1] at HS0 ⊢
  clear hw1
  try rw [p1]
  refine (shl_walk _ m (xp : Int) w1 HS0.out.nm (by omega) (by have := HB.out; omega)).mono ?_
  rintro e w2 ⟨v2, rfl, hn2, hb2⟩
  rw [Int.toNat_natCast] at hn2
  have HN2 := Lib.hid hn2
  have HS2 := Lib.hid (HS0.out.below hb2)
  obtain ⟨A2, c2, rfl, hc2, hr2⟩ := hn2
  obtain ⟨n2, hn2⟩ : ∃ n, (toL (m * 2 ^ xp)).length = n := ⟨_, rfl⟩
  rw [hn2] at HN2 ⊢
  clear hb2 hc2 hr2 hn2 HS0
  go_wp2_with fail
  try rw [p2]
  refine (ten_walk qm (by have := HB.out; omega) w2).mono ?_
  rintro e w3 ⟨v3, rfl, hn3, hb3⟩
  have HN3 := Lib.hid hn3
  have HN23 := Lib.hid (HN2.out.below hb3)
  have HS3 := Lib.hid (HS2.out.below hb3)
  clear hn3 hb3 HS2 HN2
  go_wp2_with fail
  refine (mul_walk _ _ (m * 2 ^ xp) (10 ^ qm) w3 HN23.out HN3.out (HL.out _ (by have := HB.out; omega)) (HL.out _ (by have := HB.out; omega)) (HL.out _ (by have := HB.out; omega))).mono ?_
  rintro e w4 ⟨v4, g4, rfl, ho4, _, hb4⟩
  have hn4 := ho4.nat
  rw [← HIA.out] at hn4
  have HS4 := Lib.hid (show InS w w4 (.slice A n c) m x v4 (inA m x q) from ⟨(HS3.out.below hb4).c0, (HS3.out.below hb4).c1, (HS3.out.below hb4).c2, (HS3.out.below hb4).r, (HS3.out.below hb4).nm, hn4, (HS3.out.below hb4).bl⟩)
  obtain ⟨rest, rfl, _⟩ := ho4
  rw [← HIA.out] at HS4 ⊢
  obtain ⟨n4, hn4⟩ : ∃ n, (toL (inA m x q)).length = n := ⟨_, rfl⟩
  rw [hn4] at HS4 ⊢
  have HSd := Lib.hid (HS4.out.below (below_draw' w4))
  have c2' := HS4.out.c2
  clear hb4 HS3 HN3 HN23 hn4
  go_wp2_with fail
  go_region_held3 (fun w' => w'.cell? ⟨w.heap.size, 2, none⟩ = some (.int .i64 x) ∧ Hid (InS w w' (.slice A n c) m x (.slice (some ⟨g4, 0, none⟩) n4 n4) (inA m x q)))
    (first | exact ⟨HSd.out.c2, HSd⟩ | (go_split_ands; (have K5 : InS w w5 (.slice A n c) m x (.slice (some ⟨g4, 0, none⟩) n4 n4) (inA m x q) := InS.below (Hid.out (by assumption)) hb5); exact ⟨K5.c2, Lib.hid K5⟩))
    (first | (go_split_ands; go_at_call 77; (try rw [p3]); refine (ten_walk qp (by have := HB.out; omega) _).mono ?_; rintro e w5 ⟨v5, rfl, hn5, hb5⟩; (have HN5 := Lib.hid hn5); clear hn5) | (go_split_ands; go_at_call 42; (try rw [p7]); refine (shl_walk _ (10 ^ qp) (xm : Int) _ HN5.out (by omega) (by have := HB.out; omega)).mono ?_; rintro e w5 ⟨v6, rfl, hn6, hb5⟩; (have HN6 := Lib.hid hn6); clear hn6))
  all_goals
    have HS5 : Hid (InS w w5 (.slice A n c) m x (.slice (some ⟨g4, 0, none⟩) n4 n4) (inA m x q)) := Lib.hid (by go_split_ands; exact InS.below (Hid.out (by assumption)) hb5)
    have HN7 := Lib.hid (show NatAt w5 v6 (inB x q) by rw [HIB.out]; exact HN6.out)
    clear HSd HS4 HN6 hb5 p1 p2 p3 p4 p5 p6 p7
    obtain ⟨A6, c6, rfl, hc6, hr6⟩ := HN7.out
    obtain ⟨n6, hn6⟩ : ∃ n, (toL (inB x q)).length = n := ⟨_, rfl⟩
    rw [hn6] at HN7 ⊢
    clear hc6 hr6 hn6
    obtain ⟨r0, r1, r2, r3, r4⟩ := HS5.out.r
    have hR : AnyR w5 (w.heap.size + 1) := ⟨⟨_, _, r0, r1, by simp, by simp⟩, r2, r3, r4⟩
    have q0 : (put2 w5 (w.heap.size + 1) (.slice (some ⟨g4, 0, none⟩) n4 n4) (.slice A6 n6 c6)).cell? ⟨w.heap.size + 1, 0, none⟩ = some (.slice (some ⟨g4, 0, none⟩) n4 n4) := by
      unfold put2; rw [cell_other (by simp)]; exact World.cell?_setCell_same' _ _ _ (by rw [r0]; rfl)
    have q1 : (put2 w5 (w.heap.size + 1) (.slice (some ⟨g4, 0, none⟩) n4 n4) (.slice A6 n6 c6)).cell? ⟨w.heap.size + 1, 1, none⟩ = some (.slice A6 n6 c6) := World.cell?_setCell_same' _ _ _ (by rw [cell_other (by simp), r1]; rfl)
    have na := HS5.out.na.put2 hR (.slice (some ⟨g4, 0, none⟩) n4 n4) (.slice A6 n6 c6)
    have nb := HN7.out.put2 hR (.slice (some ⟨g4, 0, none⟩) n4 n4) (.slice A6 n6 c6)
    have bl := put2_below (u0 := .slice (some ⟨g4, 0, none⟩) n4 n4) (u1 := .slice A6 n6 c6) HS5.out.bl (show w.heap.size ≤ w.heap.size + 1 by omega)
    unfold put2 at q0 q1 na nb bl
    have HNa := Lib.hid na
    have HNb := Lib.hid nb
    have HBl := Lib.hid bl
    clear na nb bl hR HS5 HN7
    go_wp2
    exact bodyPost_ret (v := .agg #[.slice (some ⟨g4, 0, none⟩) n4 n4, .slice A6 n6 c6]) (by simp [results, Tryz.results37, go_sem, q0, q1]) rfl ⟨_, _, rfl, HNa.out, HNb.out, HBl.out⟩

set_option maxRecDepth 100000 in
theorem rcmp_walk (va vb vd : Value) (a b d : Nat) (w : World) (ha : NatAt w va a) (hb : NatAt w vb b) (hd : NatAt w vd d) (h1 : blen a ≤ 60000) (h2 : blen b ≤ 60000) (h3 : blen d ≤ 60000) :
    Calls Tryz.prog 41 #[.agg #[va, vb], vd] w fun e w' => e = .returned (.int .i64 (cmpI (d * b) a)) ∧ Below w.heap.size w w' := by
  have h4 := blen_mul d b
  have l1 : ∀ a, blen a ≤ 130000 → (toL a).length ≤ 8192 := fun a ha => by rw [toL_length]; omega
  have HL := Lib.hid (show (toL a).length ≤ 8192 ∧ (toL b).length ≤ 8192 ∧ (toL d).length ≤ 8192 ∧ (toL (d * b)).length ≤ 8192 from ⟨l1 _ (by omega), l1 _ (by omega), l1 _ (by omega), l1 _ (by omega)⟩)
  have HA := Lib.hid ha
  have HB := Lib.hid hb
  have HD := Lib.hid hd
  obtain ⟨A, ca, rfl, hca, hra⟩ := ha
  obtain ⟨B, cb, rfl, hcb, hrb⟩ := hb
  obtain ⟨na, hna⟩ : ∃ n, (toL a).length = n := ⟨_, rfl⟩
  obtain ⟨nb, hnb⟩ : ∃ n, (toL b).length = n := ⟨_, rfl⟩
  rw [hna] at HA ⊢
  rw [hnb] at HB ⊢
  have hw := below_alloc' w (.cells #[.slice A na ca, .slice B nb cb] 95)
  have hX : Box2 (w.alloc (.cells #[.slice A na ca, .slice B nb cb] 95)) w.heap.size (.slice A na ca) (.slice B nb cb) := ⟨by simp, by simp, by simp, by simp, by simp⟩
  have HX := Lib.hid hX
  have HA1 := Lib.hid (HA.out.below hw)
  have HB1 := Lib.hid (HB.out.below hw)
  have HD1 := Lib.hid (HD.out.below hw)
  have HW := Lib.hid hw
  clear hca hra hcb hrb hna hnb h1 h2 h3 h4 l1 hX hw HA HB HD hd
  go_enter Tryz.func41, Tryz.ntmps41
  go_wp2_with fail
  obtain ⟨w1, hw1⟩ : ∃ w1, w.alloc (.cells #[.slice A na ca, .slice B nb cb] 95) = w1 := ⟨_, rfl⟩
  rw [hw1] at HX HA1 HB1 HD1 HW ⊢
  clear hw1
  refine (mul_walk _ _ d b w1 HD1.out HB1.out HL.out.2.2.1 HL.out.2.1 HL.out.2.2.2).mono ?_
  rintro e w2 ⟨v2, g2, rfl, ho2, _, hb2⟩
  have HN2 := Lib.hid ho2.nat
  have HA2 := Lib.hid (HA1.out.below hb2)
  have HW2 := Lib.hid (below_chain HW.out hb2)
  obtain ⟨x0, x1, x2, x3, x4⟩ := HX.out.below hb2
  obtain ⟨rest, rfl, _⟩ := ho2
  obtain ⟨p, hp⟩ : ∃ p, d * b = p := ⟨_, rfl⟩
  rw [hp] at HN2 HL ⊢
  have HPp := Lib.hid hp
  clear hb2 HX HA1 HB1 HD1 HW hp
  go_wp2_with fail
  refine (cmp_walk _ _ p a w2 HN2.out HA2.out (by have := HL.out; omega) (by have := HL.out; omega)).mono ?_
  rintro e w3 ⟨rfl, hq⟩
  have HW3 := Lib.hid (below_chain HW2.out (drewn_below hq))
  clear hq
  go_wp2
  go_ret
  exact ⟨by rw [HPp.out]; rfl, HW3.out⟩
end Go.Proofs.YtibjogbalmbeeaaGreatDoor

namespace Go.Proofs.YtibjogbalmbeeaaGreatDoor

/-- Units of 2^(L-1) and of 10^q: d * 10^q is d * ufF / ufG of them. -/
def ufF (f : Fm) (q : Int) : Nat := 10 ^ q.toNat * 2 ^ (1 - f.L).toNat
def ufG (q : Int) : Nat := 10 ^ (-q).toNat
theorem ufF_pos (f : Fm) (q : Int) : 0 < ufF f q := Nat.mul_pos (Nat.pow_pos (by omega)) (Nat.two_pow_pos _)
theorem ufG_pos (q : Int) : 0 < ufG q := Nat.pow_pos (by omega)
/-- A number's fraction in units of 10^q, up to a factor. -/
theorem in_units {f : Fm} {m N u : Nat} {x q : Int} (hx : x = f.L - 1 + (u : Int)) (hL : f.L ≤ 0) (hN : m * 2 ^ u = N) :
    inA m x q * 2 ^ (1 - f.L).toNat = N * ufG q * 2 ^ (-x).toNat ∧ inB x q * 2 ^ (1 - f.L).toNat = ufF f q * 2 ^ (-x).toNat := by
  have e : 2 ^ x.toNat * 2 ^ (1 - f.L).toNat = 2 ^ u * 2 ^ (-x).toNat := by
    rw [← Nat.pow_add, ← Nat.pow_add]; congr 1; omega
  constructor
  · have : inA m x q * 2 ^ (1 - f.L).toNat = m * (2 ^ x.toNat * 2 ^ (1 - f.L).toNat) * ufG q := by unfold inA ufG; ac_rfl
    rw [this, e, ← hN]; ac_rfl
  · unfold inB ufF; ac_rfl
theorem cmp_scale {a b c d k l : Nat} (hk : 0 < k) (hl : 0 < l) (h1 : a * k = c * l) (h2 : b * k = d * l) : cmpI b a = cmpI d c := by
  have e1 : (b < a) ↔ (d < c) := by
    rw [← Nat.mul_lt_mul_right hk, h1, h2, Nat.mul_lt_mul_right hl]
  have e2 : (b = a) ↔ (d = c) := by
    constructor
    · intro e; exact Nat.eq_of_mul_eq_mul_right hl (by rw [← h1, ← h2, e])
    · intro e; exact Nat.eq_of_mul_eq_mul_right hk (by rw [h1, h2, e])
  unfold cmpI
  simp only [e1, e2]
theorem div_scale {a b c d k l : Nat} (hk : 0 < k) (hl : 0 < l) (hb : 0 < b) (h1 : a * k = c * l) (h2 : b * k = d * l) : a / b = c / d ∧ cmpI (2 * (a % b)) b = cmpI (2 * (c % d)) d ∧ (a % b = 0 ↔ c % d = 0) := by
  have hd : 0 < d := Nat.pos_of_ne_zero fun e => by rw [e, Nat.zero_mul] at h2; have := Nat.mul_pos hb hk; omega
  have e1 : a / b = c / d := by
    rw [← Nat.mul_div_mul_right a b hk, h1, h2, Nat.mul_div_mul_right _ _ hl]
  have e2 : (a % b) * k = (c % d) * l := by
    rw [← Nat.mul_mod_mul_right, ← Nat.mul_mod_mul_right, h1, h2]
  refine ⟨e1, cmp_scale hk hl h2 (by rw [Nat.mul_assoc, e2, Nat.mul_assoc]), ?_⟩
  constructor
  · intro e; rw [e, Nat.zero_mul] at e2; exact (Nat.mul_eq_zero.1 e2.symm).resolve_right (by omega)
  · intro e; rw [e, Nat.zero_mul] at e2; exact (Nat.mul_eq_zero.1 e2).resolve_right (by omega)
/-- d * 10^q rounds to z just where it lies in z's cell. -/
def loOk (f : Fm) (z d : Nat) (q : Int) : Prop := md f (z - 1) * ufG q < d * ufF f q ∨ (md f (z - 1) * ufG q = d * ufF f q ∧ z % 2 = 0)
def hiOk (f : Fm) (z d : Nat) (q : Int) : Prop := d * ufF f q < md f z * ufG q ∨ (d * ufF f q = md f z * ufG q ∧ z % 2 = 0)
theorem md_step (f : Fm) (s : Nat) : md f s < md f (s + 1) := by
  have h1 := vP_lt f s
  have h2 := vP_lt f (s + 1)
  unfold md; omega
theorem md_lt (f : Fm) {s t : Nat} (h : s < t) : md f s < md f t := by
  induction t with
  | zero => omega
  | succ t ih =>
    by_cases e : s = t
    · subst e; exact md_step f s
    · exact Nat.lt_trans (ih (by omega)) (md_step f t)
theorem cell_pat {f : Fm} {z d : Nat} {q : Int} (h0 : z ≠ 0) (hz : z < f.inf) : IsPat f (tn d q) (td q) z ↔ loOk f z d q ∧ hiOk f z d q := by
  have e : tn d q * 2 ^ (1 - f.L).toNat = d * ufF f q := by unfold tn ufF; ac_rfl
  have hG : td q = ufG q := rfl
  have hGp := ufG_pos q
  unfold IsPat loOk hiOk
  rw [e, hG]
  generalize d * ufF f q = V at *
  have hlt : ∀ s t, s < t → md f s * ufG q < md f t * ufG q := fun s t h => Nat.mul_lt_mul_of_pos_right (md_lt f h) hGp
  constructor
  · intro h
    have h1 := (h (z - 1)).1 (by omega)
    have h2 := fun hh => (h z).2 hh
    constructor
    · rcases h1.2 with h3 | ⟨h3, h4⟩
      · exact .inl h3
      · exact .inr ⟨h3, by omega⟩
    · have h5 : ¬ (md f z * ufG q < V ∨ (md f z * ufG q = V ∧ z % 2 = 1)) := fun hh => by
        have := h2 ⟨hz, hh⟩
        omega
      by_cases h6 : V < md f z * ufG q
      · exact .inl h6
      · have h7 : V = md f z * ufG q := by
          apply Nat.le_antisymm _ (Nat.le_of_not_lt h6)
          exact Nat.le_of_not_lt fun hh => h5 (.inl hh)
        exact .inr ⟨h7, by
          have : ¬ z % 2 = 1 := fun hh => h5 (.inr ⟨h7.symm, hh⟩)
          omega⟩
  · rintro ⟨hl, hh⟩ s
    constructor
    · intro hs
      refine ⟨by omega, ?_⟩
      by_cases e : s = z - 1
      · subst e
        rcases hl with h3 | ⟨h3, h4⟩
        · exact .inl h3
        · exact .inr ⟨h3, by omega⟩
      · have := hlt s (z - 1) (by omega)
        left
        rcases hl with h3 | ⟨h3, _⟩ <;> omega
    · rintro ⟨_, hor⟩
      refine Nat.lt_of_not_le fun hsz => ?_
      have hge : md f z * ufG q ≤ md f s * ufG q := by
        by_cases e : s = z
        · rw [e]; exact Nat.le_refl _
        · exact Nat.le_of_lt (hlt z s (by omega))
      rcases hor with h3 | ⟨h3, h4⟩
      · rcases hh with h5 | ⟨h5, _⟩ <;> omega
      · rcases hh with h5 | ⟨h5, h6⟩
        · omega
        · by_cases e : s = z
          · subst e; omega
          · have := hlt z s (by omega)
            omega
end Go.Proofs.YtibjogbalmbeeaaGreatDoor

namespace Go.Proofs.YtibjogbalmbeeaaGreatDoor

/-- 10^t is at most m * 2^x, 10^(t+1) is above it. -/
def tenIs (m : Nat) (x t : Int) : Prop := inB x t ≤ inA m x t ∧ inA m x (t + 1) < inB x (t + 1)
theorem ten_lo {m : Nat} {x t : Int} (hm : m ≠ 0) (hx : -1300 ≤ x) (ht : t ≤ -400) : inB x t ≤ inA m x t := by
  have h1 := ten_big (-t).toNat (by omega)
  have h2 : 2 ^ (-x).toNat ≤ 2 ^ xT := Nat.pow_le_pow_right (by omega) (by rw [xs_eq.2.2]; omega)
  have h3 : 1 ≤ m * 2 ^ x.toNat := Nat.mul_pos (by omega) (Nat.two_pow_pos _)
  unfold inA inB
  rw [show t.toNat = 0 by omega, Nat.pow_zero, Nat.one_mul]
  have h4 := Nat.mul_le_mul_right (10 ^ (-t).toNat) h3
  rw [Nat.one_mul] at h4
  omega
theorem ten_hi {m : Nat} {x t : Int} (hm : blen m ≤ 64) (hx : x ≤ 1200) (ht : 400 ≤ t) : inA m x t < inB x t := by
  have h1 := ten_big t.toNat (by omega)
  have h2 : m * 2 ^ x.toNat < 2 ^ blen m * 2 ^ x.toNat := Nat.mul_lt_mul_of_pos_right (blen_hi m) (Nat.two_pow_pos _)
  rw [← Nat.pow_add] at h2
  have h3 : 2 ^ (blen m + x.toNat) ≤ 2 ^ xT := Nat.pow_le_pow_right (by omega) (by rw [xs_eq.2.2]; omega)
  unfold inA inB
  rw [show (-t).toNat = 0 by omega, Nat.pow_zero, Nat.mul_one]
  have h4 : 10 ^ t.toNat * 1 ≤ 10 ^ t.toNat * 2 ^ (-x).toNat := Nat.mul_le_mul_left _ (Nat.two_pow_pos _)
  omega
theorem uf_shift (f : Fm) (q : Int) (k : Nat) : ufF f (q + k) * ufG q = 10 ^ k * ufF f q * ufG (q + k) := by
  unfold ufF ufG
  have e : 10 ^ (q + k).toNat * 10 ^ (-q).toNat = 10 ^ k * 10 ^ q.toNat * 10 ^ (-(q + k)).toNat := by
    rw [← Nat.pow_add, ← Nat.pow_add, ← Nat.pow_add]; congr 1; omega
  have e1 : 10 ^ (q + k).toNat * 2 ^ (1 - f.L).toNat * 10 ^ (-q).toNat = (10 ^ (q + k).toNat * 10 ^ (-q).toNat) * 2 ^ (1 - f.L).toNat := by ac_rfl
  rw [e1, e]; ac_rfl
theorem vP_gap (f : Fm) (hP : 2 ≤ f.P) {z : Nat} (h0 : z ≠ 0) : vP f z ≤ (vP f z - vP f (z - 1)) * 2 ^ f.P ∧ vP f z ≤ (vP f (z + 1) - vP f z) * 2 ^ f.P := by
  have hp := Nat.two_pow_pos (f.P - 1)
  have eP : 2 ^ f.P = 2 * 2 ^ (f.P - 1) := by rw [← Nat.pow_succ']; congr 1; omega
  have gap : ∀ s, vP f (s + 1) = vP f s + 2 ^ mex f s := fun s => by
    have h1 := md_mnt f s
    have h2 := vP_mnt f s
    unfold md at h1
    rw [Nat.add_mul, Nat.one_mul, Nat.mul_assoc, ← h2] at h1
    omega
  have hm := mnt_lt hP z
  have h2 := vP_mnt f z
  have hup : vP f z ≤ 2 ^ mex f z * 2 ^ f.P := by
    rw [h2, Nat.mul_comm]; exact Nat.mul_le_mul_left _ (Nat.le_of_lt hm)
  refine ⟨?_, by rw [gap z, Nat.add_sub_cancel_left]; exact hup⟩
  obtain ⟨s, rfl⟩ : ∃ s, z = s + 1 := ⟨z - 1, by omega⟩
  rw [Nat.add_sub_cancel]
  have hs := mnt_lt hP s
  have h3 := vP_mnt f s
  rw [gap s, Nat.add_sub_cancel_left, h3]
  have h4 : (mnt f s + 1) * 2 ^ mex f s ≤ 2 ^ f.P * 2 ^ mex f s := Nat.mul_le_mul_right _ hs
  rw [Nat.add_mul, Nat.one_mul] at h4
  rw [Nat.mul_comm (2 ^ mex f s)]
  exact h4
instance (f : Fm) (z d : Nat) (q : Int) : Decidable (loOk f z d q) := by unfold loOk; exact inferInstance
instance (f : Fm) (z d : Nat) (q : Int) : Decidable (hiOk f z d q) := by unfold hiOk; exact inferInstance
/-- The whole part and the rest of z's number in units of 10^q. -/
def shL (f : Fm) (z : Nat) (q : Int) : Nat := 2 * vP f z * ufG q / ufF f q
def shR (f : Fm) (z : Nat) (q : Int) : Nat := 2 * vP f z * ufG q % ufF f q
/-- Is the whole part the nearer of the two (of two that are equally near: is it even)? -/
def shN (f : Fm) (z : Nat) (q : Int) : Bool := decide (cmpI (2 * shR f z q) (ufF f q) < 0) || (decide (cmpI (2 * shR f z q) (ufF f q) = 0) && !(tb (shL f z q) 0))
/-- What is chosen with the last digit at 10^q, if anything is in the cell. -/
def shD (f : Fm) (z : Nat) (q : Int) : Option Nat :=
  if loOk f z (shL f z q) q ∧ hiOk f z (shL f z q + 1) q then some (if shN f z q then shL f z q else shL f z q + 1)
  else if loOk f z (shL f z q) q then some (shL f z q) else if hiOk f z (shL f z q + 1) q then some (shL f z q + 1) else none
/-- The shortest decimal: t the exponent of the first digit, n digits. -/
def ShOk (f : Fm) (z d : Nat) (q : Int) : Prop :=
  ∃ (t : Int) (n : Nat), (ufF f t ≤ 2 * vP f z * ufG t ∧ 2 * vP f z * ufG (t + 1) < ufF f (t + 1)) ∧ 1 ≤ n ∧ n ≤ 17 ∧ q = t - n + 1 ∧ shD f z q = some d ∧ ∀ k : Nat, 1 ≤ k → k < n → shD f z (t - k + 1) = none
theorem sh_frame (f : Fm) (z : Nat) (q : Int) (h0 : z ≠ 0) : hiOk f z (shL f z q) q ∧ loOk f z (shL f z q + 1) q ∧ shL f z q * ufF f q + shR f z q = 2 * vP f z * ufG q ∧ shR f z q < ufF f q := by
  have hF := ufF_pos f q
  have hG := ufG_pos q
  have h1 := Nat.div_add_mod (2 * vP f z * ufG q) (ufF f q)
  have h2 := Nat.mod_lt (2 * vP f z * ufG q) hF
  have e : shL f z q * ufF f q + shR f z q = 2 * vP f z * ufG q := by unfold shL shR; rw [Nat.mul_comm]; exact h1
  have hr : shR f z q < ufF f q := h2
  have g1 : 2 * vP f z < md f z := by have := vP_lt f z; unfold md; omega
  have g2 : md f (z - 1) < 2 * vP f z := by
    obtain ⟨s, rfl⟩ : ∃ s, z = s + 1 := ⟨z - 1, by omega⟩
    have := vP_lt f s
    rw [Nat.add_sub_cancel]; unfold md; omega
  have k1 := Nat.mul_lt_mul_of_pos_right g1 hG
  have k2 := Nat.mul_lt_mul_of_pos_right g2 hG
  refine ⟨.inl (by omega), .inl ?_, e, hr⟩
  rw [Nat.add_mul, Nat.one_mul]; omega
/-- With 17 digits something is in the cell. -/
theorem sh_ends {f : Fm} (hf : f.ok) {z : Nat} (h0 : z ≠ 0) {t : Int} (ht : ufF f t ≤ 2 * vP f z * ufG t) : shD f z (t - 16) ≠ none := by
  have hP2 := (Fm.ok.facts hf).1
  have hPle : f.P ≤ 53 := by rcases hf with h | h <;> subst h <;> decide
  obtain ⟨g1, g2⟩ := vP_gap f hP2 h0
  obtain ⟨_, _, e, hr⟩ := sh_frame f z (t - 16) h0
  have hG := ufG_pos (t - 16)
  have hGt := ufG_pos t
  have hs := uf_shift f (t - 16) 16
  rw [show t - 16 + ((16 : Nat) : Int) = t by omega] at hs
  have hF : 10 ^ 16 * ufF f (t - 16) ≤ 2 * vP f z * ufG (t - 16) := by
    have h1 := Nat.mul_le_mul_right (ufG (t - 16)) ht
    rw [hs] at h1
    refine Nat.le_of_mul_le_mul_right (c := ufG t) ?_ hGt
    have e1 : 2 * vP f z * ufG t * ufG (t - 16) = 2 * vP f z * ufG (t - 16) * ufG t := by ac_rfl
    rw [← e1]; exact h1
  have hp : 2 ^ f.P ≤ 2 ^ 53 := Nat.pow_le_pow_right (by omega) hPle
  have small : ∀ g, vP f z ≤ g * 2 ^ f.P → ufF f (t - 16) < 2 * (g * ufG (t - 16)) := fun g hg => by
    have h1 : g * 2 ^ f.P ≤ g * 2 ^ 53 := Nat.mul_le_mul_left _ hp
    have h2 : vP f z ≤ g * 2 ^ 53 := Nat.le_trans hg h1
    have h3 := Nat.mul_le_mul_right (ufG (t - 16)) h2
    have h4 : g * 2 ^ 53 * ufG (t - 16) = g * ufG (t - 16) * 2 ^ 53 := by ac_rfl
    rw [h4] at h3
    have h5 : 2 * vP f z * ufG (t - 16) = 2 * (vP f z * ufG (t - 16)) := Nat.mul_assoc _ _ _
    rw [h5] at hF
    have hFp := ufF_pos f (t - 16)
    rw [show (10 : Nat) ^ 16 = 10000000000000000 by decide] at hF
    rw [show (2 : Nat) ^ 53 = 9007199254740992 by decide] at h3
    omega
  have s1 := small _ g1
  have s2 := small _ g2
  intro hn
  have hlo : ¬ loOk f z (shL f z (t - 16)) (t - 16) ∧ ¬ hiOk f z (shL f z (t - 16) + 1) (t - 16) := by
    unfold shD at hn
    split at hn
    · exact absurd hn (by simp)
    · split at hn
      · exact absurd hn (by simp)
      · split at hn
        · exact absurd hn (by simp)
        · rename_i h1 h2; exact ⟨h1, h2⟩
  have d1 : md f (z - 1) * ufG (t - 16) + (vP f z - vP f (z - 1)) * ufG (t - 16) = 2 * vP f z * ufG (t - 16) := by
    rw [← Nat.add_mul]; congr 1
    obtain ⟨s, rfl⟩ : ∃ s, z = s + 1 := ⟨z - 1, by omega⟩
    have := vP_lt f s
    rw [Nat.add_sub_cancel]; unfold md; omega
  have d2 : md f z * ufG (t - 16) = 2 * vP f z * ufG (t - 16) + (vP f (z + 1) - vP f z) * ufG (t - 16) := by
    rw [← Nat.add_mul]; congr 1
    have := vP_lt f z
    unfold md; omega
  by_cases hh : 2 * shR f z (t - 16) ≤ ufF f (t - 16)
  · exact hlo.1 (.inl (by omega))
  · refine hlo.2 (.inl ?_)
    rw [Nat.add_mul, Nat.one_mul]; omega
end Go.Proofs.YtibjogbalmbeeaaGreatDoor
