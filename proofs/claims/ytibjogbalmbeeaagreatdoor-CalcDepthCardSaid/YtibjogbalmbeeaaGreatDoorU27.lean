/- Walks of num: (way).div to nearest, NearDiv, of numbers from nought on. · Walk of round: Cell, of a size above nought (printed by gen_cell.py). -/
import Derived.Test.YtibjogbalmbeeaaGreatDoorU15
import Derived.Test.YtibjogbalmbeeaaGreatDoorU06
import Derived.Deep.RegionHeld3
import Derived.Test.YtibjogbalmbeeaaGreatDoorU18

namespace Go.Proofs.YtibjogbalmbeeaaGreatDoor
open Go.RowKit

/-- What stands in memory while a quotient is rounded. -/
structure DvS (w w' : World) (vx vy : Value) (a b : Nat) : Prop where
  x0 : w'.cell? ⟨w.heap.size, 0, none⟩ = some (.bool false)
  x1 : w'.cell? ⟨w.heap.size, 1, none⟩ = some vx
  y0 : w'.cell? ⟨w.heap.size + 1, 0, none⟩ = some (.bool false)
  y1 : w'.cell? ⟨w.heap.size + 1, 1, none⟩ = some vy
  r : Box2 w' (w.heap.size + 1 + 1) (.bool false) (.slice none 0 0)
  da : NatAt w' vx a
  db : NatAt w' vy b
  bl : Below w.heap.size w w'
theorem DvS.below {w w1 w2 : World} {vx vy : Value} {a b : Nat} (h : DvS w w1 vx vy a b) (hb : Below w1.heap.size w1 w2) : DvS w w2 vx vy a b :=
  ⟨cell_kept hb h.x0, cell_kept hb h.x1, cell_kept hb h.y0, cell_kept hb h.y1, h.r.below hb, h.da.below hb, h.db.below hb, below_chain h.bl hb⟩

/-- Two cells that may be written and hold no word. -/
def AnyR (W : World) (g : Nat) : Prop := (∃ v0 v1, W.cell? ⟨g, 0, none⟩ = some v0 ∧ W.cell? ⟨g, 1, none⟩ = some v1 ∧ (∀ x, v0 ≠ .int .u64 x) ∧ (∀ x, v1 ≠ .int .u64 x)) ∧ W.frozen? ⟨g, 0, none⟩ = false ∧ W.frozen? ⟨g, 1, none⟩ = false ∧ g < W.heap.size
theorem AnyR.below {W w1 : World} {g : Nat} (h : AnyR W g) (hb : Below W.heap.size W w1) : AnyR w1 g := by
  obtain ⟨⟨v0, v1, h0, h1, n0, n1⟩, f0, f1, hl⟩ := h
  exact ⟨⟨v0, v1, cell_kept hb h0, cell_kept hb h1, n0, n1⟩, (hb.frozen (p := ⟨g, 0, none⟩) hl).trans f0, (hb.frozen (p := ⟨g, 1, none⟩) hl).trans f1, Nat.lt_of_lt_of_le hl hb.size⟩
/-- The world behind a struct of a sign and a slice that was stored. -/
def put2 (W : World) (g : Nat) (u0 u1 : Value) : World := (W.setCell ⟨g, 0, none⟩ u0).setCell ⟨g, 1, none⟩ u1
theorem AnyR.put {W : World} {g : Nat} (h : AnyR W g) {A : Option Addr} {b : Bool} {n c : Nat} : AnyR (put2 W g (.bool b) (.slice A n c)) g ∧ (put2 W g (.bool b) (.slice A n c)).cell? ⟨g, 0, none⟩ = some (.bool b) ∧ (put2 W g (.bool b) (.slice A n c)).cell? ⟨g, 1, none⟩ = some (.slice A n c) := by
  obtain ⟨⟨v0, v1, h0, h1, n0, n1⟩, f0, f1, hl⟩ := h
  have e0 : (put2 W g (.bool b) (.slice A n c)).cell? ⟨g, 0, none⟩ = some (.bool b) := by
    unfold put2; rw [cell_other (by simp)]; exact World.cell?_setCell_same' _ _ _ (by rw [h0]; rfl)
  have e1 : (put2 W g (.bool b) (.slice A n c)).cell? ⟨g, 1, none⟩ = some (.slice A n c) := World.cell?_setCell_same' _ _ _ (by rw [cell_other (by simp), h1]; rfl)
  exact ⟨⟨⟨_, _, e0, e1, by simp, by simp⟩, by unfold put2; simpa using f0, by unfold put2; simpa using f1, by unfold put2; simpa using hl⟩, e0, e1⟩
theorem NatAt.put2 {W : World} {v : Value} {a g : Nat} (h : NatAt W v a) (hr : AnyR W g) (u0 u1 : Value) : NatAt (put2 W g u0 u1) v a := by
  obtain ⟨⟨v0, v1, h0, h1, n0, n1⟩, _⟩ := hr
  exact (h.write h0 n0 u0).write (by rw [cell_other (by simp)]; exact h1) n1 u1
theorem put2_far {W : World} {g g' j : Nat} {u0 u1 v : Value} (hne : g ≠ g') (h : W.cell? ⟨g', j, none⟩ = some v) : (put2 W g u0 u1).cell? ⟨g', j, none⟩ = some v := by
  unfold put2
  rw [cell_other (fun e => hne (congrArg Addr.block e)), cell_other (fun e => hne (congrArg Addr.block e))]; exact h
theorem put2_below {B : Nat} {w W : World} {g : Nat} {u0 u1 : Value} (h : Below B w W) (hg : B ≤ g) : Below B w (put2 W g u0 u1) := (h.setCell (p := ⟨g, 0, none⟩) hg _).setCell (p := ⟨g, 1, none⟩) hg _
structure DvR (w w' : World) (vq vr vl : Value) (q r l : Nat) : Prop where
  x0 : w'.cell? ⟨w.heap.size, 0, none⟩ = some (.bool false)
  y0 : w'.cell? ⟨w.heap.size + 1, 0, none⟩ = some (.bool false)
  rr : AnyR w' (w.heap.size + 1 + 1)
  dq : NatAt w' vq q
  dr : NatAt w' vr r
  dl : NatAt w' vl l
  bl : Below w.heap.size w w'
theorem DvR.below {w w1 w2 : World} {vq vr vl : Value} {q r l : Nat} (h : DvR w w1 vq vr vl q r l) (hb : Below w1.heap.size w1 w2) : DvR w w2 vq vr vl q r l :=
  ⟨cell_kept hb h.x0, cell_kept hb h.y0, h.rr.below hb, h.dq.below hb, h.dr.below hb, h.dl.below hb, below_chain h.bl hb⟩
theorem DvR.put {w w1 : World} {vq vr vl : Value} {q r l : Nat} (h : DvR w w1 vq vr vl q r l) {A : Option Addr} {b : Bool} {n c : Nat} : DvR w (put2 w1 (w.heap.size + 1 + 1) (.bool b) (.slice A n c)) vq vr vl q r l :=
  ⟨put2_far (by omega) h.x0, put2_far (by omega) h.y0, h.rr.put.1, h.dq.put2 h.rr _ _, h.dr.put2 h.rr _ _, h.dl.put2 h.rr _ _, put2_below h.bl (by omega)⟩

end Go.Proofs.YtibjogbalmbeeaaGreatDoor

namespace Go.Proofs.YtibjogbalmbeeaaGreatDoor
open Go.RowKit

/-- Six cells that may be written and hold no word. -/
structure Any6 (W : World) (g : Nat) : Prop where
  c : ∀ j, j < 6 → ∃ v, W.cell? ⟨g, j, none⟩ = some v ∧ ∀ x, v ≠ .int .u64 x
  f : ∀ j, j < 6 → W.frozen? ⟨g, j, none⟩ = false
  l : g < W.heap.size
theorem Any6.below {W w1 : World} {g : Nat} (h : Any6 W g) (hb : Below W.heap.size W w1) : Any6 w1 g :=
  ⟨fun j hj => by obtain ⟨v, h1, h2⟩ := h.c j hj; exact ⟨v, cell_kept hb h1, h2⟩, fun j hj => (hb.frozen (p := ⟨g, j, none⟩) h.l).trans (h.f j hj), Nat.lt_of_lt_of_le h.l hb.size⟩
theorem Any6.set {W : World} {g i : Nat} {u : Value} (h : Any6 W g) (hi : i < 6) (hu : ∀ x, u ≠ .int .u64 x) : Any6 (W.setCell ⟨g, i, none⟩ u) g ∧ (W.setCell ⟨g, i, none⟩ u).cell? ⟨g, i, none⟩ = some u := by
  have e : (W.setCell ⟨g, i, none⟩ u).cell? ⟨g, i, none⟩ = some u := by
    obtain ⟨v, h1, _⟩ := h.c i hi
    exact World.cell?_setCell_same' _ _ _ (by rw [h1]; rfl)
  refine ⟨⟨fun j hj => ?_, fun j hj => by simpa using h.f j hj, by simpa using h.l⟩, e⟩
  by_cases hji : j = i
  · subst hji; exact ⟨u, e, hu⟩
  · obtain ⟨v, h1, h2⟩ := h.c j hj
    exact ⟨v, by rw [cell_other (fun e => hji (congrArg Addr.off e).symm)]; exact h1, h2⟩
def put6 (W : World) (g : Nat) (u0 u1 u2 u3 u4 u5 : Value) : World := (((((W.setCell ⟨g, 0, none⟩ u0).setCell ⟨g, 1, none⟩ u1).setCell ⟨g, 2, none⟩ u2).setCell ⟨g, 3, none⟩ u3).setCell ⟨g, 4, none⟩ u4).setCell ⟨g, 5, none⟩ u5
theorem Any6.nat {W : World} {g i : Nat} {u v : Value} {a : Nat} (h : Any6 W g) (hi : i < 6) (hn : NatAt W v a) : NatAt (W.setCell ⟨g, i, none⟩ u) v a := by
  obtain ⟨x, h1, h2⟩ := h.c i hi
  exact hn.write h1 h2 u
theorem put6_facts {B : Nat} {w W : World} {g : Nat} (h : Any6 W g) {u0 u1 u2 u3 u4 u5 v v' : Value} {a a' : Nat} (n0 : ∀ x, u0 ≠ .int .u64 x) (n1 : ∀ x, u1 ≠ .int .u64 x) (n2 : ∀ x, u2 ≠ .int .u64 x) (n3 : ∀ x, u3 ≠ .int .u64 x) (n4 : ∀ x, u4 ≠ .int .u64 x) (n5 : ∀ x, u5 ≠ .int .u64 x) (hv : NatAt W v a) (hv' : NatAt W v' a') (hb : Below B w W) (hg : B ≤ g) :
    (put6 W g u0 u1 u2 u3 u4 u5).cell? ⟨g, 0, none⟩ = some u0 ∧ (put6 W g u0 u1 u2 u3 u4 u5).cell? ⟨g, 1, none⟩ = some u1 ∧ (put6 W g u0 u1 u2 u3 u4 u5).cell? ⟨g, 2, none⟩ = some u2 ∧ (put6 W g u0 u1 u2 u3 u4 u5).cell? ⟨g, 3, none⟩ = some u3 ∧ (put6 W g u0 u1 u2 u3 u4 u5).cell? ⟨g, 4, none⟩ = some u4 ∧ (put6 W g u0 u1 u2 u3 u4 u5).cell? ⟨g, 5, none⟩ = some u5 ∧
    NatAt (put6 W g u0 u1 u2 u3 u4 u5) v a ∧ NatAt (put6 W g u0 u1 u2 u3 u4 u5) v' a' ∧ Below B w (put6 W g u0 u1 u2 u3 u4 u5) := by
  obtain ⟨h0, e0⟩ := h.set (i := 0) (by omega) n0
  obtain ⟨h1, e1⟩ := h0.set (i := 1) (by omega) n1
  obtain ⟨h2, e2⟩ := h1.set (i := 2) (by omega) n2
  obtain ⟨h3, e3⟩ := h2.set (i := 3) (by omega) n3
  obtain ⟨h4, e4⟩ := h3.set (i := 4) (by omega) n4
  obtain ⟨h5, e5⟩ := h4.set (i := 5) (by omega) n5
  unfold put6
  refine ⟨?_, ?_, ?_, ?_, ?_, e5, ?_, ?_, ?_⟩
  · rw [cell_other (by simp), cell_other (by simp), cell_other (by simp), cell_other (by simp), cell_other (by simp)]; exact e0
  · rw [cell_other (by simp), cell_other (by simp), cell_other (by simp), cell_other (by simp)]; exact e1
  · rw [cell_other (by simp), cell_other (by simp), cell_other (by simp)]; exact e2
  · rw [cell_other (by simp), cell_other (by simp)]; exact e3
  · rw [cell_other (by simp)]; exact e4
  · exact h4.nat (by omega) (h3.nat (by omega) (h2.nat (by omega) (h1.nat (by omega) (h0.nat (by omega) (h.nat (by omega) hv)))))
  · exact h4.nat (by omega) (h3.nat (by omega) (h2.nat (by omega) (h1.nat (by omega) (h0.nat (by omega) (h.nat (by omega) hv')))))
  · exact (((((hb.setCell (p := ⟨g, 0, none⟩) hg _).setCell (p := ⟨g, 1, none⟩) hg _).setCell (p := ⟨g, 2, none⟩) hg _).setCell (p := ⟨g, 3, none⟩) hg _).setCell (p := ⟨g, 4, none⟩) hg _).setCell (p := ⟨g, 5, none⟩) hg _
theorem span6 (w : World) : Any6 (w.alloc (.cells #[.bool false, .slice none 0 0, .int .i64 0, .bool false, .slice none 0 0, .int .i64 0] 90)) w.heap.size := by
  refine ⟨fun j hj => ?_, fun j hj => by simp, by simp⟩
  match j, hj with
  | 0, _ => exact ⟨.bool false, by simp, by simp⟩
  | 1, _ => exact ⟨.slice none 0 0, by simp, by simp⟩
  | 2, _ => exact ⟨.int .i64 0, by simp, by simp⟩
  | 3, _ => exact ⟨.bool false, by simp, by simp⟩
  | 4, _ => exact ⟨.slice none 0 0, by simp, by simp⟩
  | 5, _ => exact ⟨.int .i64 0, by simp, by simp⟩

set_option maxRecDepth 100000 in
set_option maxHeartbeats 1000000 in
theorem cell_S (z : Nat) (hfin : z < 2139095040) (h0 : z ≠ 0) (w : World) (ht : Tab64 w) :
    Calls Tryz.prog 35 #[.int .i64 32, .int .u64 (z : Int)] w fun e w' => ∃ (m u m' u' : Nat) (s s' : Value), e = .returned (.tuple #[.agg #[.bool false, s, .int .i64 (-150 + (u : Int)), .bool false, s', .int .i64 (-150 + (u' : Int))], .bool (z % 2 == 0), .int .i64 0]) ∧ NatAt w' s m ∧ NatAt w' s' m' ∧ m % 2 = 1 ∧ m' % 2 = 1 ∧ m * 2 ^ u = md fmS (z - 1) ∧ m' * 2 ^ u' = md fmS z ∧ u ≤ 400 ∧ u' ≤ 400 ∧ Below w.heap.size w w' := by
  have hzm : z % 2147483648 = z := Nat.mod_eq_of_lt (by omega)
  have HCls := Lib.hid (classOf_S z (by omega))
  rw [hzm] at HCls
  have hcl : clsN 8388608 2139095040 z = 1 ∨ clsN 8388608 2139095040 z = 2 := by
    unfold clsN
    rw [if_neg h0]
    by_cases h : z < 8388608
    · rw [if_pos h]; exact .inl rfl
    · rw [if_neg h, if_pos hfin]; exact .inr rfl
  obtain ⟨z1, hz1⟩ : ∃ z1, z - 1 = z1 := ⟨_, rfl⟩
  have p1 : IntKind.u64.wrap ((z : Int) - 1) = (z1 : Int) := by rw [IntKind.wrap_u64]; omega
  have HM := Lib.hid (fun W hT => mid_S z hfin W hT)
  have HM1 := Lib.hid (fun W hT => mid_S z1 (by omega) W hT)
  have hev : ((bits BinOp.and IntKind.u64 (z : Int) 1) == 0) = (z % 2 == 0) := by
    have h1 := bits_and_u64_nat z 1 (by omega) (by omega)
    rw [Nat.and_one_is_mod] at h1
    rw [show ((1 : Nat) : Int) = 1 from rfl] at h1
    rw [h1]
    have h2 := Nat.mod_lt z (show 0 < 2 by omega)
    generalize z % 2 = r at *
    match r, h2 with
    | 0, _ => rfl
    | 1, _ => rfl
  have HEv := Lib.hid hev
  obtain ⟨ev, hevv⟩ : ∃ ev, (z % 2 == 0) = ev := ⟨_, rfl⟩
  rw [hevv] at HEv ⊢
  rw [hz1]
  have HW0 := Lib.hid (below_alloc' w (.cells #[.bool false, .slice none 0 0, .int .i64 0, .bool false, .slice none 0 0, .int .i64 0] 90))
  have HR := Lib.hid (span6 w)
  have HT := Lib.hid (ht.below HW0.out)
  have HC := Lib.hid hcl
  obtain ⟨cl, hcc⟩ : ∃ cl, clsN 8388608 2139095040 z = cl := ⟨_, rfl⟩
  rw [hcc] at HCls HC
  have c0 : ((cl : Int) == 0) = false := by rw [beq_eq_false_iff_ne]; have := HC.out; omega
  have c3 : ((cl : Int) == 3) = false := by rw [beq_eq_false_iff_ne]; have := HC.out; omega
  have c4 : ((cl : Int) == 4) = false := by rw [beq_eq_false_iff_ne]; have := HC.out; omega
  clear hzm hcl hz1 hev hevv hcc ht hfin h0
  go_enter Tryz.func35, Tryz.ntmps35
  go_wp2_with fail
  refine (HCls.out _).mono ?_
  rintro e w1 ⟨rfl, hb1⟩
  have HR1 := Lib.hid (HR.out.below hb1)
  have HT1 := Lib.hid (HT.out.below hb1)
  have HW1 := Lib.hid (below_chain HW0.out hb1)
  clear hb1 HR HT HW0 HCls
  go_wp2_with fail
  refine (HM.out _ HT1.out).mono ?_
  rintro e w2 ⟨mf, uf, sf, rfl, hnf, hof, hvf, huf, hb2⟩
  have hb3 := below_alloc' w2 (.cells #[.bool false, sf, .int .i64 (-150 + (uf : Int))] 86)
  have HNf := Lib.hid (hnf.below hb3)
  have HFf := Lib.hid (show mf % 2 = 1 ∧ mf * 2 ^ uf = md fmS z ∧ uf ≤ 400 from ⟨hof, hvf, huf⟩)
  have HR3 := Lib.hid ((HR1.out.below hb2).below hb3)
  have HT3 := Lib.hid ((HT1.out.below hb2).below hb3)
  have HW3 := Lib.hid (below_chain (below_chain HW1.out hb2) hb3)
  have HB3 : Hid (Box3 (w2.alloc (.cells #[.bool false, sf, .int .i64 (-150 + (uf : Int))] 86)) w2.heap.size (.bool false) sf (.int .i64 (-150 + (uf : Int)))) := Lib.hid ⟨by simp, by simp, by simp, by simp, by simp, by simp, by simp⟩
  obtain ⟨Af, cf, rfl, hcf, hrf⟩ := hnf
  obtain ⟨nf, hnf⟩ : ∃ n, (toL mf).length = n := ⟨_, rfl⟩
  rw [hnf] at HNf HR3 HT3 HW3 HB3 ⊢
  clear hb2 hb3 hof hvf huf hcf hrf HR1 HT1 HW1 HM hnf
  go_wp2_with fail
  obtain ⟨w3, hw3⟩ : ∃ w3, w2.alloc (.cells #[.bool false, .slice Af nf cf, .int .i64 (-150 + (uf : Int))] 86) = w3 := ⟨_, rfl⟩
  obtain ⟨gf, hgf⟩ : ∃ gf, w2.heap.size = gf := ⟨_, rfl⟩
  rw [hw3] at HNf HR3 HT3 HW3 HB3 ⊢
  rw [hgf] at HB3 ⊢
  clear hw3 hgf
  refine (HM1.out _ HT3.out).mono ?_
  rintro e w4 ⟨mn, un, sn, rfl, hnn, hon, hvn, hun, hb4⟩
  have hb5 := below_alloc' w4 (.cells #[.bool false, sn, .int .i64 (-150 + (un : Int))] 86)
  have HNn := Lib.hid (hnn.below hb5)
  have HFn := Lib.hid (show mn % 2 = 1 ∧ mn * 2 ^ un = md fmS z1 ∧ un ≤ 400 from ⟨hon, hvn, hun⟩)
  have HNf5 := Lib.hid ((HNf.out.below hb4).below hb5)
  have HR5 := Lib.hid ((HR3.out.below hb4).below hb5)
  have HW5 := Lib.hid (below_chain (below_chain HW3.out hb4) hb5)
  have HB5 := Lib.hid ((HB3.out.below hb4).below hb5)
  obtain ⟨An, cn, rfl, hcn, hrn⟩ := hnn
  obtain ⟨nn, hnn⟩ : ∃ n, (toL mn).length = n := ⟨_, rfl⟩
  rw [hnn] at HNn HR5 HW5 HB5 HNf5 ⊢
  obtain ⟨x0, x1, x2, _⟩ := HB5.out
  have y0 : (w4.alloc (.cells #[.bool false, .slice An nn cn, .int .i64 (-150 + (un : Int))] 86)).cell? ⟨w4.heap.size, 0, none⟩ = some (.bool false) := by simp
  have y1 : (w4.alloc (.cells #[.bool false, .slice An nn cn, .int .i64 (-150 + (un : Int))] 86)).cell? ⟨w4.heap.size, 1, none⟩ = some (.slice An nn cn) := by simp
  have y2 : (w4.alloc (.cells #[.bool false, .slice An nn cn, .int .i64 (-150 + (un : Int))] 86)).cell? ⟨w4.heap.size, 2, none⟩ = some (.int .i64 (-150 + (un : Int))) := by simp
  obtain ⟨v0, r0, _⟩ := HR5.out.c 0 (by omega)
  obtain ⟨v1, r1, _⟩ := HR5.out.c 1 (by omega)
  obtain ⟨v2, r2, _⟩ := HR5.out.c 2 (by omega)
  obtain ⟨v3, r3, _⟩ := HR5.out.c 3 (by omega)
  obtain ⟨v4, r4, _⟩ := HR5.out.c 4 (by omega)
  obtain ⟨v5, r5, _⟩ := HR5.out.c 5 (by omega)
  have f0 := HR5.out.f 0 (by omega)
  have f1 := HR5.out.f 1 (by omega)
  have f2 := HR5.out.f 2 (by omega)
  have f3 := HR5.out.f 3 (by omega)
  have f4 := HR5.out.f 4 (by omega)
  have f5 := HR5.out.f 5 (by omega)
  obtain ⟨q0, q1, q2, q3, q4, q5, qn, qf, qb⟩ := put6_facts HR5.out (u0 := .bool false) (u1 := .slice An nn cn) (u2 := .int .i64 (-150 + (un : Int))) (u3 := .bool false) (u4 := .slice Af nf cf) (u5 := .int .i64 (-150 + (uf : Int))) (by simp) (by simp) (by simp) (by simp) (by simp) (by simp) HNn.out HNf5.out HW5.out (Nat.le_refl _)
  unfold put6 at q0 q1 q2 q3 q4 q5 qn qf qb
  have HQn := Lib.hid qn
  have HQf := Lib.hid qf
  have HQb := Lib.hid qb
  clear hb4 hb5 hon hvn hun hcn hrn HR3 HT3 HW3 HB3 HNf HM1 hnn qn qf qb HR5 HW5 HB5 HNn HNf5
  go_wp2_with fail
  rw [HEv.out]
  go_wp2
  exact bodyPost_ret (v := .tuple #[.agg #[.bool false, .slice An nn cn, .int .i64 (-150 + (un : Int)), .bool false, .slice Af nf cf, .int .i64 (-150 + (uf : Int))], .bool ev, .int .i64 0]) (by simp [results, Tryz.results35, go_sem, q0, q1, q2, q3, q4, q5]) rfl ⟨mn, un, mf, uf, _, _, rfl, HQn.out, HQf.out, HFn.out.1, HFf.out.1, HFn.out.2.1, HFf.out.2.1, HFn.out.2.2, HFf.out.2.2, HQb.out⟩

set_option maxRecDepth 100000 in
set_option maxHeartbeats 1000000 in
theorem cell_D (z : Nat) (hfin : z < 9218868437227405312) (h0 : z ≠ 0) (w : World) (ht : Tab64 w) :
    Calls Tryz.prog 35 #[.int .i64 64, .int .u64 (z : Int)] w fun e w' => ∃ (m u m' u' : Nat) (s s' : Value), e = .returned (.tuple #[.agg #[.bool false, s, .int .i64 (-1075 + (u : Int)), .bool false, s', .int .i64 (-1075 + (u' : Int))], .bool (z % 2 == 0), .int .i64 0]) ∧ NatAt w' s m ∧ NatAt w' s' m' ∧ m % 2 = 1 ∧ m' % 2 = 1 ∧ m * 2 ^ u = md fmD (z - 1) ∧ m' * 2 ^ u' = md fmD z ∧ u ≤ 2200 ∧ u' ≤ 2200 ∧ Below w.heap.size w w' := by
  have hzm : z % 9223372036854775808 = z := Nat.mod_eq_of_lt (by omega)
  have HCls := Lib.hid (classOf_D z (by omega))
  rw [hzm] at HCls
  have hcl : clsN 4503599627370496 9218868437227405312 z = 1 ∨ clsN 4503599627370496 9218868437227405312 z = 2 := by
    unfold clsN
    rw [if_neg h0]
    by_cases h : z < 4503599627370496
    · rw [if_pos h]; exact .inl rfl
    · rw [if_neg h, if_pos hfin]; exact .inr rfl
  obtain ⟨z1, hz1⟩ : ∃ z1, z - 1 = z1 := ⟨_, rfl⟩
  have p1 : IntKind.u64.wrap ((z : Int) - 1) = (z1 : Int) := by rw [IntKind.wrap_u64]; omega
  have HM := Lib.hid (fun W hT => mid_D z hfin W hT)
  have HM1 := Lib.hid (fun W hT => mid_D z1 (by omega) W hT)
  have hev : ((bits BinOp.and IntKind.u64 (z : Int) 1) == 0) = (z % 2 == 0) := by
    have h1 := bits_and_u64_nat z 1 (by omega) (by omega)
    rw [Nat.and_one_is_mod] at h1
    rw [show ((1 : Nat) : Int) = 1 from rfl] at h1
    rw [h1]
    have h2 := Nat.mod_lt z (show 0 < 2 by omega)
    generalize z % 2 = r at *
    match r, h2 with
    | 0, _ => rfl
    | 1, _ => rfl
  have HEv := Lib.hid hev
  obtain ⟨ev, hevv⟩ : ∃ ev, (z % 2 == 0) = ev := ⟨_, rfl⟩
  rw [hevv] at HEv ⊢
  rw [hz1]
  have HW0 := Lib.hid (below_alloc' w (.cells #[.bool false, .slice none 0 0, .int .i64 0, .bool false, .slice none 0 0, .int .i64 0] 90))
  have HR := Lib.hid (span6 w)
  have HT := Lib.hid (ht.below HW0.out)
  have HC := Lib.hid hcl
  obtain ⟨cl, hcc⟩ : ∃ cl, clsN 4503599627370496 9218868437227405312 z = cl := ⟨_, rfl⟩
  rw [hcc] at HCls HC
  have c0 : ((cl : Int) == 0) = false := by rw [beq_eq_false_iff_ne]; have := HC.out; omega
  have c3 : ((cl : Int) == 3) = false := by rw [beq_eq_false_iff_ne]; have := HC.out; omega
  have c4 : ((cl : Int) == 4) = false := by rw [beq_eq_false_iff_ne]; have := HC.out; omega
  clear hzm hcl hz1 hev hevv hcc ht hfin h0
  go_enter Tryz.func35, Tryz.ntmps35
  go_wp2_with fail
  refine (HCls.out _).mono ?_
  rintro e w1 ⟨rfl, hb1⟩
  have HR1 := Lib.hid (HR.out.below hb1)
  have HT1 := Lib.hid (HT.out.below hb1)
  have HW1 := Lib.hid (below_chain HW0.out hb1)
  clear hb1 HR HT HW0 HCls
  go_wp2_with fail
  refine (HM.out _ HT1.out).mono ?_
  rintro e w2 ⟨mf, uf, sf, rfl, hnf, hof, hvf, huf, hb2⟩
  have hb3 := below_alloc' w2 (.cells #[.bool false, sf, .int .i64 (-1075 + (uf : Int))] 86)
  have HNf := Lib.hid (hnf.below hb3)
  have HFf := Lib.hid (show mf % 2 = 1 ∧ mf * 2 ^ uf = md fmD z ∧ uf ≤ 2200 from ⟨hof, hvf, huf⟩)
  have HR3 := Lib.hid ((HR1.out.below hb2).below hb3)
  have HT3 := Lib.hid ((HT1.out.below hb2).below hb3)
  have HW3 := Lib.hid (below_chain (below_chain HW1.out hb2) hb3)
  have HB3 : Hid (Box3 (w2.alloc (.cells #[.bool false, sf, .int .i64 (-1075 + (uf : Int))] 86)) w2.heap.size (.bool false) sf (.int .i64 (-1075 + (uf : Int)))) := Lib.hid ⟨by simp, by simp, by simp, by simp, by simp, by simp, by simp⟩
  obtain ⟨Af, cf, rfl, hcf, hrf⟩ := hnf
  obtain ⟨nf, hnf⟩ : ∃ n, (toL mf).length = n := ⟨_, rfl⟩
  rw [hnf] at HNf HR3 HT3 HW3 HB3 ⊢
  clear hb2 hb3 hof hvf huf hcf hrf HR1 HT1 HW1 HM hnf
  go_wp2_with fail
  obtain ⟨w3, hw3⟩ : ∃ w3, w2.alloc (.cells #[.bool false, .slice Af nf cf, .int .i64 (-1075 + (uf : Int))] 86) = w3 := ⟨_, rfl⟩
  obtain ⟨gf, hgf⟩ : ∃ gf, w2.heap.size = gf := ⟨_, rfl⟩
  rw [hw3] at HNf HR3 HT3 HW3 HB3 ⊢
  rw [hgf] at HB3 ⊢
  clear hw3 hgf
  refine (HM1.out _ HT3.out).mono ?_
  rintro e w4 ⟨mn, un, sn, rfl, hnn, hon, hvn, hun, hb4⟩
  have hb5 := below_alloc' w4 (.cells #[.bool false, sn, .int .i64 (-1075 + (un : Int))] 86)
  have HNn := Lib.hid (hnn.below hb5)
  have HFn := Lib.hid (show mn % 2 = 1 ∧ mn * 2 ^ un = md fmD z1 ∧ un ≤ 2200 from ⟨hon, hvn, hun⟩)
  have HNf5 := Lib.hid ((HNf.out.below hb4).below hb5)
  have HR5 := Lib.hid ((HR3.out.below hb4).below hb5)
  have HW5 := Lib.hid (below_chain (below_chain HW3.out hb4) hb5)
  have HB5 := Lib.hid ((HB3.out.below hb4).below hb5)
  obtain ⟨An, cn, rfl, hcn, hrn⟩ := hnn
  obtain ⟨nn, hnn⟩ : ∃ n, (toL mn).length = n := ⟨_, rfl⟩
  rw [hnn] at HNn HR5 HW5 HB5 HNf5 ⊢
  obtain ⟨x0, x1, x2, _⟩ := HB5.out
  have y0 : (w4.alloc (.cells #[.bool false, .slice An nn cn, .int .i64 (-1075 + (un : Int))] 86)).cell? ⟨w4.heap.size, 0, none⟩ = some (.bool false) := by simp
  have y1 : (w4.alloc (.cells #[.bool false, .slice An nn cn, .int .i64 (-1075 + (un : Int))] 86)).cell? ⟨w4.heap.size, 1, none⟩ = some (.slice An nn cn) := by simp
  have y2 : (w4.alloc (.cells #[.bool false, .slice An nn cn, .int .i64 (-1075 + (un : Int))] 86)).cell? ⟨w4.heap.size, 2, none⟩ = some (.int .i64 (-1075 + (un : Int))) := by simp
  obtain ⟨v0, r0, _⟩ := HR5.out.c 0 (by omega)
  obtain ⟨v1, r1, _⟩ := HR5.out.c 1 (by omega)
  obtain ⟨v2, r2, _⟩ := HR5.out.c 2 (by omega)
  obtain ⟨v3, r3, _⟩ := HR5.out.c 3 (by omega)
  obtain ⟨v4, r4, _⟩ := HR5.out.c 4 (by omega)
  obtain ⟨v5, r5, _⟩ := HR5.out.c 5 (by omega)
  have f0 := HR5.out.f 0 (by omega)
  have f1 := HR5.out.f 1 (by omega)
  have f2 := HR5.out.f 2 (by omega)
  have f3 := HR5.out.f 3 (by omega)
  have f4 := HR5.out.f 4 (by omega)
  have f5 := HR5.out.f 5 (by omega)
  obtain ⟨q0, q1, q2, q3, q4, q5, qn, qf, qb⟩ := put6_facts HR5.out (u0 := .bool false) (u1 := .slice An nn cn) (u2 := .int .i64 (-1075 + (un : Int))) (u3 := .bool false) (u4 := .slice Af nf cf) (u5 := .int .i64 (-1075 + (uf : Int))) (by simp) (by simp) (by simp) (by simp) (by simp) (by simp) HNn.out HNf5.out HW5.out (Nat.le_refl _)
  unfold put6 at q0 q1 q2 q3 q4 q5 qn qf qb
  have HQn := Lib.hid qn
  have HQf := Lib.hid qf
  have HQb := Lib.hid qb
  clear hb4 hb5 hon hvn hun hcn hrn HR3 HT3 HW3 HB3 HNf HM1 hnn qn qf qb HR5 HW5 HB5 HNn HNf5
  go_wp2_with fail
  rw [HEv.out]
  go_wp2
  exact bodyPost_ret (v := .tuple #[.agg #[.bool false, .slice An nn cn, .int .i64 (-1075 + (un : Int)), .bool false, .slice Af nf cf, .int .i64 (-1075 + (uf : Int))], .bool ev, .int .i64 0]) (by simp [results, Tryz.results35, go_sem, q0, q1, q2, q3, q4, q5]) rfl ⟨mn, un, mf, uf, _, _, rfl, HQn.out, HQf.out, HFn.out.1, HFf.out.1, HFn.out.2.1, HFf.out.2.1, HFn.out.2.2, HFf.out.2.2, HQb.out⟩
end Go.Proofs.YtibjogbalmbeeaaGreatDoor
