/- Walks of soft: tell at a zero and at an infinity. · Walks of soft: turned at a zero and at an infinity. · Walks of soft: Neg at a zero and at an infinity, given what read answers. · Walks of soft: read at a zero, given the class. · Walks: slices.Clone at the limbs of a number, dyadic.twin, dyadic.Neg of a positive number. -/
import Derived.Test.YtibjogbalmbeeaaGreatDoorU24
import Derived.Test.YtibjogbalmbeeaaGreatDoorU18
import Derived.Test.YtibjogbalmbeeaaGreatDoorU04

namespace Go.Proofs.YtibjogbalmbeeaaGreatDoor
open Go.RowKit

set_option maxRecDepth 100000 in
set_option maxHeartbeats 1000000 in
theorem tell_inf (neg : Bool) (w : World) :
    Calls Tryz.prog 169 #[.int .i64 64, .iface 239 (.agg #[.bool neg])] w fun e w' => e = .returned (.tuple #[.int .u64 ((if neg then 2 ^ 63 + 9218868437227405312 else 9218868437227405312 : Nat) : Int), .int .i64 0]) ∧ Below w.heap.size w w' := by
  have hta : ∀ W : World, (Instr.typeAssert (.iface 239 (.agg #[.bool neg])) 217 239 true).run Tryz.prog W = .ok (.tuple #[.agg #[.bool neg], .bool true]) W := fun _ => by kernel_rfl
  have HS := Lib.hid (fun W => softsigned_walk neg 9218868437227405312 (by decide) W)
  have hb := below_alloc' w (.cells #[.bool neg] 239)
  obtain ⟨y, hy⟩ : ∃ y : Int, ((if neg then 2 ^ 63 + 9218868437227405312 else 9218868437227405312 : Nat) : Int) = y := ⟨_, rfl⟩
  rw [hy] at HS ⊢
  clear hy
  go_enter Tryz.func169, Tryz.ntmps169
  go_wp2_with fail
  refine (HS.out _).mono ?_
  rintro e w' ⟨rfl, hw⟩
  (have h0 := hw.symm); subst h0
  clear hw
  go_wp2_with fail
  refine bodyPost_ret (v := .tuple #[.int .u64 y, .int .i64 0]) (by simp [results, Tryz.results169, go_sem]) rfl ⟨rfl, hb⟩

set_option maxRecDepth 100000 in
set_option maxHeartbeats 1000000 in
theorem tell_zero (neg : Bool) (w : World) :
    Calls Tryz.prog 169 #[.int .i64 64, .iface 241 (.agg #[.bool neg])] w fun e w' => e = .returned (.tuple #[.int .u64 ((if neg then 2 ^ 63 else 0 : Nat) : Int), .int .i64 0]) ∧ Below w.heap.size w w' := by
  have ht0 : ∀ W : World, (Instr.typeAssert (.iface 241 (.agg #[.bool neg])) 217 239 true).run Tryz.prog W = .ok (.tuple #[.agg #[.bool false], .bool false]) W := fun _ => by kernel_rfl
  have hta : ∀ W : World, (Instr.typeAssert (.iface 241 (.agg #[.bool neg])) 217 241 true).run Tryz.prog W = .ok (.tuple #[.agg #[.bool neg], .bool true]) W := fun _ => by kernel_rfl
  have HS := Lib.hid (fun W => softsigned_walk neg 0 (by decide) W)
  have hb := below_alloc' w (.cells #[.bool neg] 241)
  rw [show (2 ^ 63 + 0 : Nat) = 2 ^ 63 from rfl] at HS
  obtain ⟨y, hy⟩ : ∃ y : Int, ((if neg then 2 ^ 63 else 0 : Nat) : Int) = y := ⟨_, rfl⟩
  rw [hy] at HS ⊢
  clear hy
  go_enter Tryz.func169, Tryz.ntmps169
  go_wp2_with fail
  refine (HS.out _).mono ?_
  rintro e w' ⟨rfl, hw⟩
  (have h0 := hw.symm); subst h0
  clear hw
  go_wp2_with fail
  refine bodyPost_ret (v := .tuple #[.int .u64 y, .int .i64 0]) (by simp [results, Tryz.results169, go_sem]) rfl ⟨rfl, hb⟩
end Go.Proofs.YtibjogbalmbeeaaGreatDoor

namespace Go.Proofs.YtibjogbalmbeeaaGreatDoor
open Go.RowKit

set_option maxRecDepth 100000 in
theorem turned_inf (neg : Bool) (w : World) :
    Calls Tryz.prog 464 #[.agg #[.bool neg]] w fun e w' => e = .returned (.iface 239 (.agg #[.bool (!neg)])) ∧ Below w.heap.size w w' := by
  have hb := below_alloc' w (.cells #[.bool neg] 239)
  go_enter Tryz.func464, Tryz.ntmps464
  go_wp2_with fail
  refine bodyPost_ret (v := .iface 239 (.agg #[.bool (!neg)])) (by simp [results, Tryz.results464, go_sem]) rfl ⟨rfl, hb⟩

set_option maxRecDepth 100000 in
theorem turned_nought (neg : Bool) (w : World) :
    Calls Tryz.prog 466 #[.agg #[.bool neg]] w fun e w' => e = .returned (.iface 241 (.agg #[.bool (!neg)])) ∧ Below w.heap.size w w' := by
  have hb := below_alloc' w (.cells #[.bool neg] 241)
  go_enter Tryz.func466, Tryz.ntmps466
  go_wp2_with fail
  refine bodyPost_ret (v := .iface 241 (.agg #[.bool (!neg)])) (by simp [results, Tryz.results466, go_sem]) rfl ⟨rfl, hb⟩
end Go.Proofs.YtibjogbalmbeeaaGreatDoor

namespace Go.Proofs.YtibjogbalmbeeaaGreatDoor
open Go.RowKit

set_option maxRecDepth 100000 in
set_option maxHeartbeats 1000000 in
theorem neg_nought (neg : Bool) (b : Nat) (w : World)
    (hR : ∀ U, Calls Tryz.prog 187 #[.int .i64 64, .int .u64 (b : Int)] U fun e w' => e = .returned (.tuple #[.iface 241 (.agg #[.bool neg]), .int .i64 0]) ∧ Below U.heap.size U w') :
    Calls Tryz.prog 180 #[.int .i64 64, .int .u64 (b : Int)] w fun e w' => e = .returned (.tuple #[.int .u64 ((if (!neg) then 2 ^ 63 else 0 : Nat) : Int), .int .i64 0]) ∧ Below w.heap.size w w' := by
  have HR := Lib.hid (hR w)
  have HU := Lib.hid (fun U => turned_nought neg U)
  have HT := Lib.hid (fun U => tell_zero (!neg) U)
  obtain ⟨y, hy⟩ : ∃ y : Int, ((if (!neg) then 2 ^ 63 else 0 : Nat) : Int) = y := ⟨_, rfl⟩
  rw [hy] at HT ⊢
  clear hy hR
  go_enter Tryz.func180, Tryz.ntmps180
  go_wp2_with fail
  refine HR.out.mono ?_
  rintro e w1 ⟨rfl, h1⟩
  have H1 := Lib.hid h1
  clear h1
  go_wp2_with fail
  refine (HU.out _).mono ?_
  rintro e w2 ⟨rfl, h2⟩
  have H2 := Lib.hid (below_chain H1.out h2)
  clear h2
  go_wp2_with fail
  refine (HT.out _).mono ?_
  rintro e w3 ⟨rfl, h3⟩
  have H3 := Lib.hid (below_chain H2.out h3)
  clear h3
  go_wp2_with fail
  refine bodyPost_ret (v := .tuple #[.int .u64 y, .int .i64 0]) (by simp [results, Tryz.results180, go_sem]) rfl ⟨rfl, H3.out⟩

set_option maxRecDepth 100000 in
set_option maxHeartbeats 1000000 in
theorem neg_inf (neg : Bool) (b : Nat) (w : World)
    (hR : ∀ U, Calls Tryz.prog 187 #[.int .i64 64, .int .u64 (b : Int)] U fun e w' => e = .returned (.tuple #[.iface 239 (.agg #[.bool neg]), .int .i64 0]) ∧ Below U.heap.size U w') :
    Calls Tryz.prog 180 #[.int .i64 64, .int .u64 (b : Int)] w fun e w' => e = .returned (.tuple #[.int .u64 ((if (!neg) then 2 ^ 63 + 9218868437227405312 else 9218868437227405312 : Nat) : Int), .int .i64 0]) ∧ Below w.heap.size w w' := by
  have HR := Lib.hid (hR w)
  have HU := Lib.hid (fun U => turned_inf neg U)
  have HT := Lib.hid (fun U => tell_inf (!neg) U)
  obtain ⟨y, hy⟩ : ∃ y : Int, ((if (!neg) then 2 ^ 63 + 9218868437227405312 else 9218868437227405312 : Nat) : Int) = y := ⟨_, rfl⟩
  rw [hy] at HT ⊢
  clear hy hR
  go_enter Tryz.func180, Tryz.ntmps180
  go_wp2_with fail
  refine HR.out.mono ?_
  rintro e w1 ⟨rfl, h1⟩
  have H1 := Lib.hid h1
  clear h1
  go_wp2_with fail
  refine (HU.out _).mono ?_
  rintro e w2 ⟨rfl, h2⟩
  have H2 := Lib.hid (below_chain H1.out h2)
  clear h2
  go_wp2_with fail
  refine (HT.out _).mono ?_
  rintro e w3 ⟨rfl, h3⟩
  have H3 := Lib.hid (below_chain H2.out h3)
  clear h3
  go_wp2_with fail
  refine bodyPost_ret (v := .tuple #[.int .u64 y, .int .i64 0]) (by simp [results, Tryz.results180, go_sem]) rfl ⟨rfl, H3.out⟩
end Go.Proofs.YtibjogbalmbeeaaGreatDoor

namespace Go.Proofs.YtibjogbalmbeeaaGreatDoor
open Go.RowKit

set_option maxRecDepth 100000 in
set_option maxHeartbeats 1000000 in
theorem read_nought (b : Nat) (neg : Bool) (w : World)
    (hs : (bits BinOp.and IntKind.u64 (b : Int) 9223372036854775808 != 0) = neg)
    (hC : Calls Tryz.prog 16 #[.int .i64 64, .int .u64 (b : Int)] w fun e w' => e = .returned (.tuple #[.int .i64 0, .int .i64 0]) ∧ Below w.heap.size w w') :
    Calls Tryz.prog 187 #[.int .i64 64, .int .u64 (b : Int)] w fun e w' => e = .returned (.tuple #[.iface 241 (.agg #[.bool neg]), .int .i64 0]) ∧ Below w.heap.size w w' := by
  have HC := Lib.hid hC
  have HB := Lib.hid (fun W => softbit_walk W)
  clear hC
  go_enter Tryz.func187, Tryz.ntmps187
  go_wp2_with fail
  refine HC.out.mono ?_
  rintro e w1 ⟨rfl, h1⟩
  have H1 := Lib.hid h1
  clear h1
  go_wp2_with fail
  refine (HB.out _).mono ?_
  rintro e w2 ⟨rfl, hw⟩
  (have h0 := hw.symm); subst h0
  clear hw
  go_wp2_with fail
  refine bodyPost_ret (v := .tuple #[.iface 241 (.agg #[.bool neg]), .int .i64 0]) (by simp [results, Tryz.results187, go_sem]) rfl ⟨rfl, H1.out⟩

set_option maxRecDepth 100000 in
set_option maxHeartbeats 1000000 in
theorem read_inf (b : Nat) (neg : Bool) (w : World)
    (hs : (bits BinOp.and IntKind.u64 (b : Int) 9223372036854775808 != 0) = neg)
    (hC : Calls Tryz.prog 16 #[.int .i64 64, .int .u64 (b : Int)] w fun e w' => e = .returned (.tuple #[.int .i64 3, .int .i64 0]) ∧ Below w.heap.size w w') :
    Calls Tryz.prog 187 #[.int .i64 64, .int .u64 (b : Int)] w fun e w' => e = .returned (.tuple #[.iface 239 (.agg #[.bool neg]), .int .i64 0]) ∧ Below w.heap.size w w' := by
  have HC := Lib.hid hC
  have HB := Lib.hid (fun W => softbit_walk W)
  clear hC
  go_enter Tryz.func187, Tryz.ntmps187
  go_wp2_with fail
  refine HC.out.mono ?_
  rintro e w1 ⟨rfl, h1⟩
  have H1 := Lib.hid h1
  clear h1
  go_wp2_with fail
  refine (HB.out _).mono ?_
  rintro e w2 ⟨rfl, hw⟩
  (have h0 := hw.symm); subst h0
  clear hw
  go_wp2_with fail
  refine bodyPost_ret (v := .tuple #[.iface 239 (.agg #[.bool neg]), .int .i64 0]) (by simp [results, Tryz.results187, go_sem]) rfl ⟨rfl, H1.out⟩
end Go.Proofs.YtibjogbalmbeeaaGreatDoor

namespace Go.Proofs.YtibjogbalmbeeaaGreatDoor
open Go.RowKit

theorem infD : fmD.inf = 9218868437227405312 := by decide
/-- The number of a pattern, rounded, is the pattern. -/
theorem near_back {m u z : Nat} (hm : m % 2 = 1) (h : m * 2 ^ u = vP fmD z) (hz : z ≤ fmD.inf) (neg : Bool) : near fmD neg m (-1074 + (u : Int)) = sgn fmD neg z ∧ blen m ≤ 2099 := by
  have hm0 : m ≠ 0 := by omega
  obtain ⟨K, hK1, hK2⟩ := (Fm.ok.facts (f := fmD) (.inr rfl)).2.2.2
  have hL : fmD.L = -1074 := by decide
  have hb : blen m + u = blen (vP fmD z) := by rw [← h, blen_mul_pow hm0]
  have hb2 : blen (vP fmD z) ≤ K + 1 := blen_le.2 (by
    have h1 := vP_mono fmD hz
    rw [hK1] at h1
    have := Nat.two_pow_pos K
    rw [Nat.pow_succ]; omega)
  have hb1 := blen_pos hm0
  have e : hxPat fmD m (-1074 + (u : Int)) = z := hxPat_exact (f := fmD) (.inr rfl) (B := -1075) (by omega) (by rw [hL]; omega) hz (by
    unfold nv
    rw [hL, show (-1074 + (u : Int) - -1075).toNat = u + 1 by omega, show ((-1074 : Int) - -1075).toNat = 1 by omega, Nat.pow_succ, ← Nat.mul_assoc, h, Nat.pow_one])
  refine ⟨?_, by omega⟩
  have e2 : near fmD false m (-1074 + (u : Int)) = z := by
    unfold hxPat at e
    rw [if_neg (by omega), if_neg (by omega), tz_odd hm] at e
    simpa using e
  unfold near at e2 ⊢
  rw [if_neg hm0] at e2 ⊢
  have e3 : sgn fmD false (rsize fmD m (-1074 + (u : Int))) = rsize fmD m (-1074 + (u : Int)) := sgn_false _ _
  rw [e3] at e2
  rw [e2]

/-- A size has no sign. -/
theorem no_sign {z : Nat} (hz : z < 9223372036854775808) : (bits BinOp.and IntKind.u64 (z : Int) 9223372036854775808 != 0) = false := by
  have e : z &&& 9223372036854775808 = 0 := by
    rw [show (9223372036854775808 : Nat) = 2 ^ 63 from rfl]
    apply Nat.eq_of_testBit_eq
    intro i
    rw [Nat.testBit_and, Nat.zero_testBit, Nat.testBit_two_pow]
    by_cases h : i = 63
    · subst h; rw [Nat.testBit_lt_two_pow hz]; rfl
    · rw [decide_eq_false (fun e => h e.symm), Bool.and_false]
  have := bits_and_u64_nat z 9223372036854775808 (by omega) (by decide)
  rw [e] at this
  rw [show (9223372036854775808 : Int) = ((9223372036854775808 : Nat) : Int) from rfl, this]
  rfl
/-- A slice of the call's own holds a number. -/
theorem OwV.nat {w : World} {B : Nat} {v : Value} {a : Nat} (h : OwV w B v (toL a)) : NatAt w v a := by
  have h0 : w.ownsRow B 23 1 v (toL a).length (U (toL a)).toList := h
  rcases h.2 with ⟨e1, e2⟩ | ⟨q, cap, cur, e1, _, _, h3, _⟩
  · have hz : toL a = [] := List.length_eq_zero_iff.1 e2
    refine ⟨none, 0, by rw [e1, e2], by omega, ?_⟩
    rw [hz]; exact RdU.nil _ _
  · refine ⟨_, cap, e1, h3, fun _ => ⟨⟨q, 0, none⟩, rfl, fun j hj => ?_⟩⟩
    exact h0.cells (g := q) (by rw [e1]; rfl) j (.int .u64 ((el (toL a) j : Nat) : Int)) (by rw [Array.getElem?_toList, U_get hj])

theorem Box3.set0 {W : World} {g : Nat} {v0 v1 v2 : Value} (h : Box3 W g v0 v1 v2) (u : Value) : Box3 (W.setCell ⟨g, 0, none⟩ u) g u v1 v2 := by
  obtain ⟨h0, h1, h2, f0, f1, f2, hl⟩ := h
  exact ⟨World.cell?_setCell_same' _ _ _ (by rw [h0]; rfl), by rw [cell_other (by simp)]; exact h1, by rw [cell_other (by simp)]; exact h2, by simpa using f0, by simpa using f1, by simpa using f2, by simpa using hl⟩
theorem Box3.set1 {W : World} {g : Nat} {v0 v1 v2 : Value} (h : Box3 W g v0 v1 v2) (u : Value) : Box3 (W.setCell ⟨g, 1, none⟩ u) g v0 u v2 := by
  obtain ⟨h0, h1, h2, f0, f1, f2, hl⟩ := h
  exact ⟨by rw [cell_other (by simp)]; exact h0, World.cell?_setCell_same' _ _ _ (by rw [h1]; rfl), by rw [cell_other (by simp)]; exact h2, by simpa using f0, by simpa using f1, by simpa using f2, by simpa using hl⟩
theorem Box3.away {W : World} {g : Nat} {v0 v1 v2 : Value} (h : Box3 W g v0 v1 v2) (p : Addr) (hp : p.block ≠ g) (u : Value) : Box3 (W.setCell p u) g v0 v1 v2 := by
  obtain ⟨h0, h1, h2, f0, f1, f2, hl⟩ := h
  have e : ∀ j, (⟨g, j, none⟩ : Addr) ≠ p := fun j e => hp (by rw [← e])
  exact ⟨by rw [World.cell?_setCell_other _ _ _ _ (e 0).symm]; exact h0, by rw [World.cell?_setCell_other _ _ _ _ (e 1).symm]; exact h1, by rw [World.cell?_setCell_other _ _ _ _ (e 2).symm]; exact h2, by simpa using f0, by simpa using f1, by simpa using f2, by simpa using hl⟩
theorem Box3.away3 {W : World} {g g' : Nat} {v0 v1 v2 u0 u1 u2 : Value} (h : Box3 W g v0 v1 v2) (hp : g' ≠ g) : Box3 (put3 W g' u0 u1 u2) g v0 v1 v2 := ((h.away ⟨g', 0, none⟩ hp u0).away ⟨g', 1, none⟩ hp u1).away ⟨g', 2, none⟩ hp u2

set_option maxRecDepth 100000 in
set_option maxHeartbeats 1000000 in
theorem clone_walk (v : Value) (a : Nat) (w : World) (h : NatAt w v a) (ha : a ≠ 0) (hl : (toL a).length ≤ 100000) :
    Calls Tryz.prog 229 #[v] w fun e w' => ∃ v', e = .returned v' ∧ NatAt w' v' a ∧ Below w.heap.size w w' := by
  obtain ⟨A, c, rfl, hc, hr⟩ := h
  have h1 : 0 < (toL a).length := by have := toL_length_zero a; omega
  obtain ⟨ad, rfl, hcell⟩ := hr h1
  have q : ∀ (w : World) (a : Option Addr) (n c n' c' : Nat), (binOp .eql 67 (.slice a n c) (.slice none n' c')).run Tryz.prog w = .ok (.bool a.isNone) w := fun w a n c n' c' => Lib.run_eql_slice_nil w _ _ a n c n' c' Tryz.underlying67
  have hb0 := below_alloc' w (.cells #[] 23)
  have HO := Lib.hid (show OwV (w.alloc (.cells #[] 23)) w.heap.size (.slice (some ⟨w.heap.size, 0, none⟩) 0 0) [] from World.ownsRow_made w #[] 0 (Nat.le_refl _) (Nat.zero_le _) rfl)
  have HC := Lib.hid (fun (j : Nat) (hj : j < (toL a).length) => cell_kept hb0 (hcell j hj))
  have HB := Lib.hid hb0
  have HL := Lib.hid hl
  obtain ⟨n, hn⟩ : ∃ n, (toL a).length = n := ⟨_, rfl⟩
  rw [hn] at HC HL ⊢
  have HN := Lib.hid hn
  clear hn hb0 hcell hr hc hl h1 ha
  go_enter Tryz.func229, Tryz.ntmps229
  go_wp2_with (at_builtin; go_loud (refine wpList_appendV rfl (.tmp 5) (.tmp 6) rfl w.heap.size _ [] rfl HO.out ad n c (toL a) rfl HN.out HC.out (by have := HL.out; simp; omega) (by simp) (fun v' w1 h1 h2 => ?_); have H1 := Lib.hid h1; have H2 := Lib.hid (h2 w HB.out); clear h1 h2))
  exact bodyPost_ret (v := v') (by simp [results, Tryz.results229, go_sem]) rfl ⟨v', rfl, OwV.nat H1.out, H2.out⟩

set_option maxRecDepth 100000 in
set_option maxHeartbeats 1000000 in
theorem twin_walk (neg : Bool) (s : Value) (a : Nat) (x : Int) (w : World) (h : NatAt w s a) (ha : a ≠ 0) (hl : (toL a).length ≤ 100000) :
    Calls Tryz.prog 213 #[.agg #[.bool neg, s, .int .i64 x]] w fun e w' => ∃ s', e = .returned (.agg #[.bool neg, s', .int .i64 x]) ∧ NatAt w' s' a ∧ Below w.heap.size w w' := by
  obtain ⟨A, c, hs, _, _⟩ := id h
  have hA := below_alloc' w (.cells #[.bool neg, s, .int .i64 x] 86)
  have hC := below_chain hA (below_alloc' _ (.cells #[.bool false, .slice none 0 0, .int .i64 0] 86))
  have HK := Lib.hid (clone_walk s a _ (h.below hC) ha hl)
  have HB1 := Lib.hid (show Box3 ((w.alloc (.cells #[.bool neg, s, .int .i64 x] 86)).alloc (.cells #[.bool false, .slice none 0 0, .int .i64 0] 86)) w.heap.size (.bool neg) s (.int .i64 x) from ⟨by simp, by simp, by simp, by simp, by simp, by simp, by simp; omega⟩)
  have HB2 := Lib.hid (show Box3 ((w.alloc (.cells #[.bool neg, s, .int .i64 x] 86)).alloc (.cells #[.bool false, .slice none 0 0, .int .i64 0] 86)) (w.heap.size + 1) (.bool false) (.slice none 0 0) (.int .i64 0) from ⟨by simp, by simp, by simp, by simp, by simp, by simp, by simp⟩)
  have HC := Lib.hid hC
  subst hs
  obtain ⟨n, hn⟩ : ∃ n, (toL a).length = n := ⟨_, rfl⟩
  rw [hn] at HK HB1 HB2 HC ⊢
  clear hn hl hA hC h ha
  go_enter Tryz.func213, Tryz.ntmps213
  go_wp2_with fail
  refine HK.out.mono ?_
  rintro e w3 ⟨s3, rfl, hn3, hb3⟩
  have HN3 := Lib.hid hn3
  have HD1 := Lib.hid (HB1.out.below hb3)
  have HD2 := Lib.hid (HB2.out.below hb3)
  have HW3 := Lib.hid (below_chain HC.out hb3)
  obtain ⟨A3, c3, rfl, _, _⟩ := hn3
  obtain ⟨n3, hn3⟩ : ∃ n, (toL a).length = n := ⟨_, rfl⟩
  rw [hn3] at HN3 ⊢
  have HE1 := Lib.hid (HD1.out.set1 (.slice A3 n3 c3))
  have HE2 := Lib.hid (HD2.out.away ⟨w.heap.size, 1, none⟩ (by simp) (.slice A3 n3 c3))
  have HN4 := Lib.hid (HN3.out.write HD1.out.2.1 (by simp) (.slice A3 n3 c3))
  have HF2 := Lib.hid (HE2.out.put (u0 := .bool neg) (u1 := .slice A3 n3 c3) (u2 := .int .i64 x))
  have HN5 := Lib.hid (HN4.out.put3 HE2.out (by simp) (by simp) (by simp) (.bool neg) (.slice A3 n3 c3) (.int .i64 x))
  have HW5 := Lib.hid (put3_below (g := w.heap.size + 1) (u0 := .bool neg) (u1 := .slice A3 n3 c3) (u2 := .int .i64 x) (HW3.out.setCell (p := ⟨w.heap.size, 1, none⟩) (Nat.le_refl _) (.slice A3 n3 c3)) (by omega))
  obtain ⟨r0, r1, r2, r3, r4, r5, _⟩ := HD1.out
  obtain ⟨k0, k1, k2, k3, k4, k5, _⟩ := HE1.out
  obtain ⟨m0, m1, m2, m3, m4, m5, _⟩ := HE2.out
  clear hb3 hn3 HN3 HD1 HD2 HE1 HE2 HN4
  have hp := HF2.out
  unfold put3 at hp HN5 HW5
  obtain ⟨e0, e1, e2, _⟩ := hp
  go_wp2
  exact bodyPost_ret (v := .agg #[.bool neg, .slice A3 n3 c3, .int .i64 x]) (by simp [results, Tryz.results213, go_sem, e0, e1, e2]) rfl ⟨_, rfl, HN5.out, HW5.out⟩

set_option maxRecDepth 100000 in
set_option maxHeartbeats 1000000 in
theorem dneg_walk (s : Value) (a : Nat) (x : Int) (w : World) (h : NatAt w s a) (ha : a % 2 = 1) (hl : blen a ≤ 524288) (hx : -1048576 ≤ x) (hx2 : x ≤ 1048576) :
    Calls Tryz.prog 343 #[.agg #[.bool false, s, .int .i64 x]] w fun e w' => ∃ s', e = .returned (.tuple #[.agg #[.bool true, s', .int .i64 x], .int .i64 0]) ∧ NatAt w' s' a ∧ Below w.heap.size w w' := by
  have ha0 : a ≠ 0 := by omega
  obtain ⟨A, c, hs, _, _⟩ := id h
  have hsz : (toL a).length ≤ 100000 := by rw [toL_length]; omega
  have hA := below_alloc' w (.cells #[.bool false, s, .int .i64 x] 86)
  have hC := below_chain hA (below_alloc' _ (.cells #[.bool false, .slice none 0 0, .int .i64 0] 86))
  have HF := Lib.hid (dform_walk false s a x _ (h.below hC) hl (by simp) hx hx2 (fun _ => ha) (fun e => absurd e ha0))
  have HTw := Lib.hid (fun W (hW : NatAt W s a) => twin_walk false s a x W hW ha0 hsz)
  have HNo := Lib.hid (fun W (s' : Value) (hW : NatAt W s' a) => nought_walk false s' a x W hW)
  rw [decide_eq_false ha0] at HNo
  have HN := Lib.hid (h.below hC)
  have HB1 := Lib.hid (show Box3 ((w.alloc (.cells #[.bool false, s, .int .i64 x] 86)).alloc (.cells #[.bool false, .slice none 0 0, .int .i64 0] 86)) w.heap.size (.bool false) s (.int .i64 x) from ⟨by simp, by simp, by simp, by simp, by simp, by simp, by simp; omega⟩)
  have HB2 := Lib.hid (show Box3 ((w.alloc (.cells #[.bool false, s, .int .i64 x] 86)).alloc (.cells #[.bool false, .slice none 0 0, .int .i64 0] 86)) (w.heap.size + 1) (.bool false) (.slice none 0 0) (.int .i64 0) from ⟨by simp, by simp, by simp, by simp, by simp, by simp, by simp⟩)
  have HC := Lib.hid hC
  subst hs
  obtain ⟨n, hn⟩ : ∃ n, (toL a).length = n := ⟨_, rfl⟩
  rw [hn] at HF HTw HN HB1 HB2 HC ⊢
  clear hn hl hA hC h ha ha0 hx hx2 hsz
  go_enter Tryz.func343, Tryz.ntmps343
  go_wp2_with fail
  refine HF.out.mono ?_
  rintro e w3 ⟨rfl, hb3⟩
  have HD1 := Lib.hid (HB1.out.below hb3)
  have HD2 := Lib.hid (HB2.out.below hb3)
  have HW3 := Lib.hid (below_chain HC.out hb3)
  have HT3 := Lib.hid (HTw.out w3 (HN.out.below hb3))
  obtain ⟨r0, r1, r2, r3, r4, r5, _⟩ := HD1.out
  clear hb3 HB1 HB2 HC HF HTw
  go_wp2_with fail
  refine HT3.out.mono ?_
  rintro e w4 ⟨s4, rfl, hn4, hb4⟩
  have HN4 := Lib.hid hn4
  have HG1 := Lib.hid (HD1.out.below hb4)
  have HG2 := Lib.hid (HD2.out.below hb4)
  have HW4 := Lib.hid (below_chain HW3.out hb4)
  obtain ⟨A4, c4, rfl, _, _⟩ := hn4
  obtain ⟨n4, hn4⟩ : ∃ n, (toL a).length = n := ⟨_, rfl⟩
  rw [hn4] at HN4 ⊢
  have HI1 := Lib.hid (HG1.out.put (u0 := .bool false) (u1 := .slice A4 n4 c4) (u2 := .int .i64 x))
  have HI2 := Lib.hid (HG2.out.away3 (g' := w.heap.size) (u0 := .bool false) (u1 := .slice A4 n4 c4) (u2 := .int .i64 x) (by omega))
  have HN5 := Lib.hid (HN4.out.put3 HG1.out (by simp) (by simp) (by simp) (.bool false) (.slice A4 n4 c4) (.int .i64 x))
  have HW5 := Lib.hid (put3_below (g := w.heap.size) (u0 := .bool false) (u1 := .slice A4 n4 c4) (u2 := .int .i64 x) HW4.out (Nat.le_refl _))
  clear hb4 hn4 HD1 HD2 HT3 r0 r1 r2 r3 r4 r5 HW3 HW4
  obtain ⟨r0, r1, r2, r3, r4, r5, _⟩ := HG1.out
  have hq := HI1.out
  unfold put3 at hq HI1 HI2 HN5 HW5
  obtain ⟨q0, q1, q2, q3, q4, q5, _⟩ := hq
  have HNo5 := Lib.hid (HNo.out _ _ HN5.out)
  go_wp2_with fail
  refine HNo5.out.mono ?_
  rintro e w6 ⟨rfl, hb6⟩
  have HJ1 := Lib.hid (HI1.out.below hb6)
  have HJ2 := Lib.hid (HI2.out.below hb6)
  have HN6 := Lib.hid (HN5.out.below hb6)
  have HW6 := Lib.hid (below_chain HW5.out hb6)
  have HK1 := Lib.hid (HJ1.out.set0 (.bool true))
  have HK2 := Lib.hid (HJ2.out.away ⟨w.heap.size, 0, none⟩ (by simp) (.bool true))
  have HN7 := Lib.hid (HN6.out.write HJ1.out.1 (by simp) (.bool true))
  have HW7 := Lib.hid (HW6.out.setCell (p := ⟨w.heap.size, 0, none⟩) (Nat.le_refl _) (.bool true))
  have HL2 := Lib.hid (HK2.out.put (u0 := .bool true) (u1 := .slice A4 n4 c4) (u2 := .int .i64 x))
  have HN8 := Lib.hid (HN7.out.put3 HK2.out (by simp) (by simp) (by simp) (.bool true) (.slice A4 n4 c4) (.int .i64 x))
  have HW8 := Lib.hid (put3_below (g := w.heap.size + 1) (u0 := .bool true) (u1 := .slice A4 n4 c4) (u2 := .int .i64 x) HW7.out (by omega))
  clear hb6 HNo5 q0 q1 q2 q3 q4 q5 r0 r1 r2 r3 r4 r5 HG1 HG2 HI1 HI2 HN4 HN5 HW5 HN6 HW6 HJ2 HN7 HW7 HNo HN
  obtain ⟨q0, q1, q2, q3, q4, q5, _⟩ := HJ1.out
  obtain ⟨k0, k1, k2, k3, k4, k5, _⟩ := HK1.out
  obtain ⟨m0, m1, m2, m3, m4, m5, _⟩ := HK2.out
  have hp := HL2.out
  unfold put3 at hp HN8 HW8
  obtain ⟨e0, e1, e2, _⟩ := hp
  clear HJ1 HK1 HK2
  go_wp2
  exact bodyPost_ret (v := .tuple #[.agg #[.bool true, .slice A4 n4 c4, .int .i64 x], .int .i64 0]) (by simp [results, Tryz.results343, go_sem, e0, e1, e2]) rfl ⟨_, rfl, HN8.out, HW8.out⟩
end Go.Proofs.YtibjogbalmbeeaaGreatDoor
