/- Walks of gnomonref11: digit, Ten, decimal. -/
import Derived.Test.YtmfjimmodaofdaaGreatDoorVi
import Derived.Test.YtmfjimmodaofdaaGreatDoorB2
import Derived.Test.YtmfjimmodaofdaaGreatDoorTo
import Derived.Test.YtmfjimmodaofdaaGreatDoorEg
namespace Go.Proofs.YtmfjimmodaofdaaGreatDoor
open Go.RowKit

set_option maxRecDepth 100000 in
set_option maxHeartbeats 1000000 in
theorem rten_walk (k : Nat) (hk : k ≤ 20000) (w : World) : Calls Tryz.prog 188 #[.int .i64 (k : Int)] w fun e w' => ∃ v, e = .returned v ∧ DgAt w' v (10 ^ k) ∧ Below w.heap.size w w' := by
  have HW := Lib.hid (show Calls Tryz.prog 179 #[.int .u64 1] w fun e w' => ∃ v', e = .returned v' ∧ DgAt w' v' 1 ∧ Below w.heap.size w w' from rword_walk 1 (by decide) w)
  have hlen : ∀ i, i ≤ k → (toD (10 ^ i)).length ≤ 50000 := fun i hi => by rw [toD_length]; have := blen_pow_ten i; omega
  have HM := Lib.hid (fun i (hi : i ≤ k) v W (h : DgAt W v (10 ^ i)) => show Calls Tryz.prog 207 #[v, .int .u32 1000000000, .int .u32 0] W fun e w' => ∃ v', e = .returned v' ∧ DgAt w' v' (10 ^ i * 1000000000 + 0) ∧ Below W.heap.size W w' from rmul_walk v (10 ^ i) 1000000000 0 W h (by omega) (by omega) (hlen i hi))
  have HT := Lib.hid (fun i (hi : i ≤ k) v W (h : DgAt W v (10 ^ i)) => show Calls Tryz.prog 207 #[v, .int .u32 10, .int .u32 0] W fun e w' => ∃ v', e = .returned v' ∧ DgAt w' v' (10 ^ i * 10 + 0) ∧ Below W.heap.size W w' from rmul_walk v (10 ^ i) 10 0 W h (by omega) (by omega) (hlen i hi))
  have HK := Lib.hid hk
  clear hlen hk
  go_enter Tryz.func188, Tryz.ntmps188
  go_wp2_with fail
  refine HW.out.mono ?_
  rintro r w1 ⟨v1, rfl, hd1, hb1⟩
  have HD1 := Lib.hid (show DgAt w1 v1 (10 ^ (k - k)) by rw [Nat.sub_self]; exact hd1)
  have HB1 := Lib.hid hb1
  clear hd1 hb1 HW
  go_wp2_with fail
  go_loopw [0, 3] (fun kv v wr => ∃ j : Nat, j ≤ k ∧ kv = .int .i64 (j : Int) ∧ Hid (DgAt wr v (10 ^ (k - j))) ∧ Hid (Below w.heap.size w wr)) (fun kv _ _ => (intOf kv).toNat)
  case atStart => exact ⟨k, Nat.le_refl _, rfl, HD1, HB1⟩
  case round =>
    obtain ⟨j, hj, rfl, HD, HB⟩ := hrel
    by_cases h9 : 9 ≤ j
    · have g1 : (9 : Int) ≤ (j : Int) := by omega
      have p1 : IntKind.i64.wrap ((j : Int) - 9) = ((j - 9 : Nat) : Int) := by have := HK.out; rw [IntKind.wrap_i64]; omega
      have hm := HM.out (k - j) (by omega) _ _ HD.out
      rw [show 10 ^ (k - j) * 1000000000 + 0 = 10 ^ (k - (j - 9)) by rw [Nat.add_zero, show (1000000000 : Nat) = 10 ^ 9 by decide, ← Nat.pow_add]; congr 1; omega] at hm
      have HM1 := Lib.hid hm
      have HJ := Lib.hid (show 9 ≤ j ∧ j ≤ k from ⟨h9, hj⟩)
      clear hm h9 hj
      go_wp2_with fail
      refine HM1.out.mono ?_
      rintro r w2 ⟨v2, rfl, hd2, hb2⟩
      have HD2 := Lib.hid hd2
      have HB2 := Lib.hid (below_chain HB.out hb2)
      clear hd2 hb2 HM1
      go_wp2_with fail
      go_roundw
      case rel => exact ⟨j - 9, by have := HJ.out; omega, rfl, HD2, HB2⟩
      case measure => have := HJ.out; simp [intOf]; omega
    · have g1 : ¬ (9 : Int) ≤ (j : Int) := by omega
      have HJ := Lib.hid (show j < 9 ∧ j ≤ k from ⟨by omega, hj⟩)
      clear h9 hj
      go_wp2_with fail
      go_loopw [0, 3] (fun kv v wr => ∃ i : Nat, i ≤ k ∧ kv = .int .i64 (i : Int) ∧ Hid (DgAt wr v (10 ^ (k - i))) ∧ Hid (Below w.heap.size w wr)) (fun kv _ _ => (intOf kv).toNat)
      case atStart => exact ⟨j, HJ.out.2, rfl, HD, HB⟩
      case round =>
        obtain ⟨i, hi, rfl, HE, HC⟩ := hrel
        by_cases h0 : i = 0
        · subst h0
          have HE2 := Lib.hid (show DgAt _ _ (10 ^ k) from HE.out)
          have g2 : ¬ (0 : Int) < ((0 : Nat) : Int) := by omega
          clear hi
          go_wp2
          go_ret
          exact ⟨_, rfl, HE2.out, HC.out⟩
        · have g2 : (0 : Int) < (i : Int) := by omega
          have p1 : IntKind.i64.wrap ((i : Int) - 1) = ((i - 1 : Nat) : Int) := by have := HK.out; rw [IntKind.wrap_i64]; omega
          have hm := HT.out (k - i) (by omega) _ _ HE.out
          rw [show 10 ^ (k - i) * 10 + 0 = 10 ^ (k - (i - 1)) by rw [show k - (i - 1) = (k - i) + 1 by omega, Nat.pow_succ]; rfl] at hm
          have HM1 := Lib.hid hm
          have HI := Lib.hid (show i ≠ 0 ∧ i ≤ k from ⟨h0, hi⟩)
          clear hm h0 hi
          go_wp2_with fail
          refine HM1.out.mono ?_
          rintro r w2 ⟨v2, rfl, hd2, hb2⟩
          have HD2 := Lib.hid hd2
          have HB2 := Lib.hid (below_chain HC.out hb2)
          clear hd2 hb2 HM1
          go_wp2_with fail
          go_roundw
          case rel => exact ⟨i - 1, by have := HI.out; omega, rfl, HD2, HB2⟩
          case measure => have := HI.out; simp [intOf]; omega

theorem DgAt.write8 {w : World} {v : Value} {a : Nat} (h : DgAt w v a) {p : Addr} {u : Value} (hc : w.cell? p = some u) (hu : ∀ x, u ≠ .int .u32 x) (y : Value) : DgAt (w.setCell p y) v a := by
  obtain ⟨A, c, e, hl, hz, hr⟩ := h
  refine ⟨A, c, e, hl, hz, fun hp => ?_⟩
  obtain ⟨ad, e2, hcl⟩ := hr hp
  refine ⟨ad, e2, fun j hj => ?_⟩
  rw [cell_other]
  · exact hcl j hj
  · intro e3
    rw [e3, hcl j hj] at hc
    exact hu _ (Option.some.inj hc).symm
/-- Digits stay where a number's box is written. -/
theorem DgAt.four {W : World} {g : Nat} {v : Value} {a : Nat} (h : DgAt W v a) (hB : Box4 W g (.slice none 0 0) (.slice none 0 0) (.int .i64 0) (.bool false)) (v0 v1 v2 v3 : Value) :
    DgAt ((((W.setCell ⟨g, 0, none⟩ v0).setCell ⟨g, 1, none⟩ v1).setCell ⟨g, 2, none⟩ v2).setCell ⟨g, 3, none⟩ v3) v a := by
  obtain ⟨g0, g1, g2, g3, _⟩ := hB
  have a0 := h.write8 g0 (fun x e => by cases e) v0
  have a1 := a0.write8 (p := ⟨g, 1, none⟩) (u := .slice none 0 0) (by rw [cell_other (by simp)]; exact g1) (fun x e => by cases e) v1
  have a2 := a1.write8 (p := ⟨g, 2, none⟩) (u := .int .i64 0) (by rw [cell_other (by simp), cell_other (by simp)]; exact g2) (fun x e => by cases e) v2
  exact a2.write8 (p := ⟨g, 3, none⟩) (u := .bool false) (by rw [cell_other (by simp), cell_other (by simp), cell_other (by simp)]; exact g3) (fun x e => by cases e) v3

set_option maxRecDepth 100000 in
set_option maxHeartbeats 1000000 in
theorem rdecimal_walk (v : Value) (d : Nat) (e : Int) (w : World) (h : DgAt w v d) (h1 : -20000 ≤ e) (h2 : e ≤ 20000) (hb : blen d ≤ 100000) :
    Calls Tryz.prog 177 #[v, .int .i64 e] w fun r w' => ∃ nv dv, r = .returned (.agg #[nv, dv, .int .i64 0, .bool false]) ∧ DgAt w' nv (tn d e) ∧ DgAt w' dv (td e) ∧ Below w.heap.size w w' := by
  have hw0 := below_alloc' w (.cells #[.slice none 0 0, .slice none 0 0, .int .i64 0, .bool false] 215)
  have hB0 : Box4 (w.alloc (.cells #[.slice none 0 0, .slice none 0 0, .int .i64 0, .bool false] 215)) w.heap.size (.slice none 0 0) (.slice none 0 0) (.int .i64 0) (.bool false) :=
    ⟨by simp, by simp, by simp, by simp, by simp, by simp, by simp, by simp, by simp⟩
  have HB0 := Lib.hid hB0
  have HW0 := Lib.hid hw0
  have HD0 := Lib.hid (h.below hw0)
  have hl0 : (toD d).length ≤ 40000 := by rw [toD_length]; omega
  obtain ⟨A, c, rfl, _, _, _⟩ := id h
  obtain ⟨n, hn⟩ : ∃ n, (toD d).length = n := ⟨_, rfl⟩
  rw [hn] at h HD0 ⊢
  by_cases hneg : e < 0
  · have et : tn d e = d := by unfold tn; rw [show e.toNat = 0 by omega, Nat.pow_zero, Nat.mul_one]
    rw [et]
    have HT := Lib.hid (fun W => rten_walk (-e).toNat (by omega) W)
    have p1 : IntKind.i64.wrap (-e) = (((-e).toNat : Nat) : Int) := by rw [IntKind.wrap_i64]; omega
    unfold td
    obtain ⟨k, hk⟩ : ∃ k, (-e).toNat = k := ⟨_, rfl⟩
    rw [hk] at HT p1 ⊢
    clear hk et h hw0 hB0 h1 h2 hb hl0 hn
    go_enter Tryz.func177, Tryz.ntmps177
    go_wp2_with fail
    refine (HT.out _).mono ?_
    rintro r w1 ⟨x, rfl, hx, hb1⟩
    obtain ⟨Ax, cx, rfl, _, _, _⟩ := id hx
    obtain ⟨nx, hnx⟩ : ∃ nx, (toD (10 ^ k)).length = nx := ⟨_, rfl⟩
    rw [hnx] at hx ⊢
    have hB1 := HB0.out.below hb1
    have HW1 := Lib.hid (below_chain HW0.out hb1)
    have HN := Lib.hid ((HD0.out.below hb1).four hB1 (.slice A n c) (.slice Ax nx cx) (.int .i64 0) (.bool false))
    have HX := Lib.hid (hx.four hB1 (.slice A n c) (.slice Ax nx cx) (.int .i64 0) (.bool false))
    obtain ⟨g0, g1, g2, g3, f0, f1, f2, f3, hg⟩ := hB1
    have H4 := Lib.hid (four_set (W := w1) (g := w.heap.size) ⟨⟨_, _, _, _, g0, g1, g2, g3⟩, f0, f1, f2, f3, hg⟩ (.slice A n c) (.slice Ax nx cx) (.int .i64 0) (.bool false))
    clear hb1 hx HB0 HW0 HD0
    go_wp2
    obtain ⟨r0, r1, r2, r3⟩ := H4.out
    refine bodyPost_ret (v := .agg #[.slice A n c, .slice Ax nx cx, .int .i64 0, .bool false]) (by simp [results, Tryz.results177, go_sem, r0, r1, r2, r3]) rfl ?_
    exact ⟨_, _, rfl, HN.out, HX.out, (((HW1.out.setCell (by simp) _).setCell (by simp) _).setCell (by simp) _).setCell (by simp) _⟩
  · have et : td e = 1 := by unfold td; rw [show (-e).toNat = 0 by omega]
    rw [et]
    have HT := Lib.hid (fun W => rten_walk e.toNat (by omega) W)
    have hl2 : (toD (10 ^ e.toNat)).length ≤ 40000 := by rw [toD_length]; have := blen_pow_ten e.toNat; omega
    have HM := Lib.hid (fun W x (h : DgAt W (.slice A n c) d) (g : DgAt W x (10 ^ e.toNat)) => rprod_walk (.slice A n c) x d (10 ^ e.toNat) W h g hl0 hl2)
    have HW := Lib.hid (fun W => show Calls Tryz.prog 179 #[.int .u64 1] W fun e w' => ∃ v', e = .returned v' ∧ DgAt w' v' 1 ∧ Below W.heap.size W w' from rword_walk 1 (by decide) W)
    have p1 : e = ((e.toNat : Nat) : Int) := by omega
    unfold tn
    obtain ⟨k, hk⟩ : ∃ k, e.toNat = k := ⟨_, rfl⟩
    rw [hk] at HT p1 HM ⊢
    clear hk et h hw0 hB0 h1 h2 hb hl0 hl2 hn
    subst p1
    obtain ⟨t, ht⟩ : ∃ t, d * 10 ^ k = t := ⟨_, rfl⟩
    simp only [ht] at HM ⊢
    clear ht
    go_enter Tryz.func177, Tryz.ntmps177
    go_wp2_with fail
    refine (HT.out _).mono ?_
    rintro r w1 ⟨x, rfl, hx, hb1⟩
    have HB1 := Lib.hid (HB0.out.below hb1)
    have HW1 := Lib.hid (below_chain HW0.out hb1)
    have HD1 := Lib.hid (HD0.out.below hb1)
    have HX := Lib.hid hx
    clear hb1 hx HB0 HW0 HD0
    go_wp2_with fail
    refine (HM.out _ _ HD1.out HX.out).mono ?_
    rintro r w2 ⟨y, rfl, hy, hb2⟩
    have HB2 := Lib.hid (HB1.out.below hb2)
    have HW2 := Lib.hid (below_chain HW1.out hb2)
    have HY := Lib.hid hy
    clear hb2 hy HB1 HW1 HD1 HX
    go_wp2_with fail
    refine (HW.out _).mono ?_
    rintro r w3 ⟨z, rfl, hz, hb3⟩
    obtain ⟨Ay, cy, rfl, _, _, _⟩ := id HY.out
    obtain ⟨Az, cz, rfl, _, _, _⟩ := id hz
    obtain ⟨ny, hny⟩ : ∃ ny, (toD t).length = ny := ⟨_, rfl⟩
    obtain ⟨nz, hnz⟩ : ∃ nz, (toD 1).length = nz := ⟨_, rfl⟩
    rw [hny] at HY ⊢
    rw [hnz] at hz ⊢
    have hB3 := HB2.out.below hb3
    have HW3 := Lib.hid (below_chain HW2.out hb3)
    have HN := Lib.hid ((HY.out.below hb3).four hB3 (.slice Ay ny cy) (.slice Az nz cz) (.int .i64 0) (.bool false))
    have HX := Lib.hid (hz.four hB3 (.slice Ay ny cy) (.slice Az nz cz) (.int .i64 0) (.bool false))
    obtain ⟨g0, g1, g2, g3, f0, f1, f2, f3, hg⟩ := hB3
    have H4 := Lib.hid (four_set (W := w3) (g := w.heap.size) ⟨⟨_, _, _, _, g0, g1, g2, g3⟩, f0, f1, f2, f3, hg⟩ (.slice Ay ny cy) (.slice Az nz cz) (.int .i64 0) (.bool false))
    clear hb3 hz HB2 HW2 HY
    go_wp2
    obtain ⟨r0, r1, r2, r3⟩ := H4.out
    refine bodyPost_ret (v := .agg #[.slice Ay ny cy, .slice Az nz cz, .int .i64 0, .bool false]) (by simp [results, Tryz.results177, go_sem, r0, r1, r2, r3]) rfl ?_
    exact ⟨_, _, rfl, HN.out, HX.out, (((HW3.out.setCell (by simp) _).setCell (by simp) _).setCell (by simp) _).setCell (by simp) _⟩
end Go.Proofs.YtmfjimmodaofdaaGreatDoor
