/- Words of this seat: a slice of limbs that is read, a natural at a value; small laws on worlds. -/
import Derived.Test.YtibjogbalmbeeaaGreatDoorProg
import Derived.Test.YtibjogbalmbeeaaGreatDoorU01
import Derived.Test.YtibjogbalmbeeaaGreatDoorSh
import Derived.WalkKit
import Derived.WalkLawsBesides
import Derived.WalkSpells
import Derived.Lib.Hide
import Derived.Outline
import Derived.Deep.QuietTactic
import Derived.BigQuiet
import Derived.StillTailTactics
import Derived.Laws.CopyOwn
import Derived.Deep.OwnRows

namespace Go.Proofs.YtibjogbalmbeeaaGreatDoor
open Go.RowKit

/-- The limbs l can be read at A. -/
def RdU (w : World) (A : Option Addr) (l : List Nat) : Prop :=
  0 < l.length → ∃ ad, A = some ad ∧ ∀ j, j < l.length → w.cell? (ad.add j) = some (.int .u64 ((el l j : Nat) : Int))
/-- v is a slice of the limbs of the natural a. -/
def NatAt (w : World) (v : Value) (a : Nat) : Prop := ∃ A c, v = .slice A (toL a).length c ∧ (toL a).length ≤ c ∧ RdU w A (toL a)

theorem RdU.nil (w : World) (A : Option Addr) : RdU w A [] := fun h => absurd h (by simp)
theorem cell_kept {w w1 : World} (hb : Below w.heap.size w w1) {a : Addr} {v : Value} (hc : w.cell? a = some v) : w1.cell? a = some v :=
  (hb.cell (World.block_lt_of_cell? w a hc)).trans hc
theorem RdU.below {w w1 : World} {A : Option Addr} {l : List Nat} (h : RdU w A l) (hb : Below w.heap.size w w1) : RdU w1 A l := fun hl => by
  obtain ⟨ad, e, hc⟩ := h hl
  exact ⟨ad, e, fun j hj => cell_kept hb (hc j hj)⟩
theorem RdU.take {w : World} {A : Option Addr} {l : List Nat} (h : RdU w A l) (n : Nat) : RdU w A (l.take n) := fun hl => by
  have hl2 : 0 < l.length := by simp at hl; omega
  obtain ⟨ad, e, hc⟩ := h hl2
  refine ⟨ad, e, fun j hj => ?_⟩
  have hj2 : j < n ∧ j < l.length := by simp at hj; omega
  rw [hc j hj2.2, el_take hj2.1]
theorem NatAt.below {w w1 : World} {v : Value} {a : Nat} (h : NatAt w v a) (hb : Below w.heap.size w w1) : NatAt w1 v a := by
  obtain ⟨A, c, e, hc, hr⟩ := h
  exact ⟨A, c, e, hc, hr.below hb⟩
theorem NatAt.nil (w : World) : NatAt w (.slice none 0 0) 0 := ⟨none, 0, by rw [toL_zero]; rfl, by rw [toL_zero]; simp, by rw [toL_zero]; exact RdU.nil _ _⟩
theorem below_next {B : Nat} {w w1 w2 : World} (h : Below B w w1) (hB : B ≤ w1.heap.size) (k : Below w1.heap.size w1 w2) : Below B w w2 :=
  h.trans ⟨k.os, k.tape, k.output, k.size, fun i hi => k.block i (Nat.lt_of_lt_of_le hi hB)⟩

theorem add_succ (ad : Addr) (j : Nat) : ad.add (j + 1) = ⟨ad.block, ad.off + (j + 1), none⟩ := by simp [Addr.add]

theorem add_block (ad : Addr) (j : Nat) : (ad.add j).block = ad.block := by unfold Addr.add; split <;> rfl

theorem cell_other {w : World} {a b : Addr} {v : Value} (h : a ≠ b) : (w.setCell a v).cell? b = w.cell? b := by first | exact World.cell?_setCell_other w a b v h | exact World.cell?_setCell_other w a v b h | exact World.cell?_setCell_other w a v h | exact World.cell?_setCell_other w a b h

theorem bcell {W w1 : World} (hb : Below W.heap.size W w1) : (∀ b o, b < W.heap.size → w1.cell? ⟨b, o, none⟩ = W.cell? ⟨b, o, none⟩) ∧ (∀ b o, b < W.heap.size → w1.frozen? ⟨b, o, none⟩ = W.frozen? ⟨b, o, none⟩) ∧ W.heap.size ≤ w1.heap.size :=
  ⟨fun b o h => hb.cell (p := ⟨b, o, none⟩) h, fun b o h => hb.frozen (p := ⟨b, o, none⟩) h, hb.size⟩
theorem below_chain {w w1 w2 : World} (h : Below w.heap.size w w1) (k : Below w1.heap.size w1 w2) : Below w.heap.size w w2 := below_next h h.size k
theorem below_alloc' (w : World) (o : Obj) : Below w.heap.size w (w.alloc o) := (Below.refl _ _).alloc (Nat.le_refl _) o
theorem size_alloc' (w : World) (o : Obj) : w.heap.size ≤ (w.alloc o).heap.size := by simp
theorem NatAt.write {w : World} {v : Value} {a : Nat} (h : NatAt w v a) {p : Addr} {u : Value} (hc : w.cell? p = some u) (hu : ∀ x, u ≠ .int .u64 x) (y : Value) : NatAt (w.setCell p y) v a := by
  obtain ⟨A, c, e, hl, hr⟩ := h
  refine ⟨A, c, e, hl, fun hp => ?_⟩
  obtain ⟨ad, e2, hcl⟩ := hr hp
  refine ⟨ad, e2, fun j hj => ?_⟩
  rw [cell_other]
  · exact hcl j hj
  · intro e3
    rw [e3, hcl j hj] at hc
    exact hu _ (Option.some.inj hc).symm
/-- The limbs as cells. -/
def U (l : List Nat) : Array Value := (l.map fun x => Value.int .u64 ((x : Nat) : Int)).toArray
/-- Block g holds just the limbs l. -/
def Blk (w : World) (g : Nat) (l : List Nat) : Prop := w.heap[g]? = some (.cells (U l) 23 (0, 0))
theorem U_get {l : List Nat} {j : Nat} (h : j < l.length) : (U l)[j]? = some (.int .u64 ((el l j : Nat) : Int)) := by
  simp [U, el, List.getD_eq_getElem?_getD, List.getElem?_eq_getElem h]
theorem U_size (l : List Nat) : (U l).size = l.length := by simp [U]
theorem add_flat (g j : Nat) : (⟨g, 0, none⟩ : Addr).add j = ⟨g, j, none⟩ := by unfold Addr.add; split <;> simp_all
theorem Blk.cell {w : World} {g : Nat} {l : List Nat} (h : Blk w g l) {j : Nat} (hj : j < l.length) : w.cell? ⟨g, j, none⟩ = some (.int .u64 ((el l j : Nat) : Int)) :=
  (cell_of_row w g j _ _ (0, 0) h).trans (U_get hj)
theorem Blk.frozen {w : World} {g : Nat} {l : List Nat} (h : Blk w g l) (j : Nat) : w.frozen? ⟨g, j, none⟩ = false := by
  unfold Blk at h; simp [World.frozen?, h]
theorem Blk.lt {w : World} {g : Nat} {l : List Nat} (h : Blk w g l) : g < w.heap.size := (Array.getElem?_eq_some_iff.1 h).1
theorem Blk.read {w : World} {g : Nat} {l : List Nat} (h : Blk w g l) : RdU w (some ⟨g, 0, none⟩) l := fun _ =>
  ⟨_, rfl, fun j hj => by rw [add_flat]; exact h.cell hj⟩
theorem Blk.nat {w : World} {g a : Nat} (h : Blk w g (toL a)) (c : Nat) (hc : (toL a).length ≤ c) : NatAt w (.slice (some ⟨g, 0, none⟩) (toL a).length c) a :=
  ⟨_, c, rfl, hc, h.read⟩
theorem Blk.new (w : World) (l : List Nat) : Blk (w.alloc (.cells (U l) 23)) w.heap.size l := heap_alloc_new w _
theorem Blk.below {w w1 : World} {g : Nat} {l : List Nat} (h : Blk w g l) (hb : Below w.heap.size w w1) : Blk w1 g l := (hb.block g h.lt).trans h
theorem Blk.set {w : World} {g : Nat} {l : List Nat} (h : Blk w g l) (i x : Nat) : Blk (w.setCell ⟨g, i, none⟩ (.int .u64 ((x : Nat) : Int))) g (l.set i x) := by
  unfold Blk at h
  have h2 : (w.setCell ⟨g, i, none⟩ (.int .u64 ((x : Nat) : Int))).heap[g]? = some (.cells ((U l).setIfInBounds i (.int .u64 ((x : Nat) : Int))) 23 (0, 0)) := by
    simp [World.setCell, Array.getElem?_modify, h]
  rw [Blk, h2]
  simp [U, List.map_set]
theorem Blk.far {w : World} {g : Nat} {l : List Nat} (h : Blk w g l) {p : Addr} (hp : g ≠ p.block) (u : Value) : Blk (w.setCell p u) g l := (Below.heap_setCell w p u g hp).trans h
theorem U_zeros (m : Nat) : U (List.replicate m 0) = madeCells #[.int .u64 0] m := by
  apply Array.ext'
  apply List.ext_getElem
  · simp [U, madeCells]
  · intro i h1 h2
    simp [U, madeCells, Nat.mod_one]
/-- make([]uint64, m): a rule of the walk. -/
theorem make_u64 (m : Nat) (hm : m ≤ 1000000) : ∀ W : World, (Instr.makeSlice 67 (.int .i64 (m : Int)) (.int .i64 (m : Int))).run Tryz.prog W = .ok (.slice (some ⟨W.heap.size, 0, none⟩) m m) (W.alloc (.cells (U (List.replicate m 0)) 23)) := by
  intro W
  rw [U_zeros]
  exact run_make_row' 67 23 (.int .u64 0) 8 Tryz.underlying67 (by kernel_rfl) rfl .i64 .i64 m (by omega) (by omega) W
/-- The library's tables stand in their variables. -/
def Tab64 (w : World) : Prop := TabAt 5 Lib.deBruijn64tab w
theorem Tab64.low {B : Nat} {w w1 : World} (h : Tab64 w) (hb : Below B w w1) (hB : 5 < B) : Tab64 w1 := fun j hj => (hb.cell (p := ⟨5, j, none⟩) hB).trans (h j hj)
theorem Tab64.below {w w1 : World} (h : Tab64 w) (hb : Below w.heap.size w w1) : Tab64 w1 := fun j hj => cell_kept hb (h j hj)
/-- Block g begins with two cells that may be written. -/
def Box2 (W : World) (g : Nat) (v0 v1 : Value) : Prop := W.cell? ⟨g, 0, none⟩ = some v0 ∧ W.cell? ⟨g, 1, none⟩ = some v1 ∧ W.frozen? ⟨g, 0, none⟩ = false ∧ W.frozen? ⟨g, 1, none⟩ = false ∧ g < W.heap.size
theorem Box2.below {W w1 : World} {g : Nat} {v0 v1 : Value} (h : Box2 W g v0 v1) (hb : Below W.heap.size W w1) : Box2 w1 g v0 v1 := by
  obtain ⟨h0, h1, h2, h3, h4⟩ := h
  exact ⟨cell_kept hb h0, cell_kept hb h1, (hb.frozen (p := ⟨g, 0, none⟩) h4).trans h2, (hb.frozen (p := ⟨g, 1, none⟩) h4).trans h3, Nat.lt_of_lt_of_le h4 hb.size⟩
def Box3 (W : World) (g : Nat) (v0 v1 v2 : Value) : Prop := W.cell? ⟨g, 0, none⟩ = some v0 ∧ W.cell? ⟨g, 1, none⟩ = some v1 ∧ W.cell? ⟨g, 2, none⟩ = some v2 ∧ W.frozen? ⟨g, 0, none⟩ = false ∧ W.frozen? ⟨g, 1, none⟩ = false ∧ W.frozen? ⟨g, 2, none⟩ = false ∧ g < W.heap.size
theorem Box3.below {W w1 : World} {g : Nat} {v0 v1 v2 : Value} (h : Box3 W g v0 v1 v2) (hb : Below W.heap.size W w1) : Box3 w1 g v0 v1 v2 := by
  obtain ⟨h0, h1, h2, f0, f1, f2, h4⟩ := h
  exact ⟨cell_kept hb h0, cell_kept hb h1, cell_kept hb h2, (hb.frozen (p := ⟨g, 0, none⟩) h4).trans f0, (hb.frozen (p := ⟨g, 1, none⟩) h4).trans f1, (hb.frozen (p := ⟨g, 2, none⟩) h4).trans f2, Nat.lt_of_lt_of_le h4 hb.size⟩
theorem below_dn {B : Nat} {w W : World} (h : Below B w W) (n : Nat) : Below B w (W.drewN n) := ⟨h.os, h.tape, h.output, h.size, h.block⟩
theorem ret_int {k : IntKind} {a b : Int} (h : a = b) : Ending.returned (.int k a) = .returned (.int k b) := by rw [h]
theorem Box3.low {B : Nat} {W w1 : World} {g : Nat} {v0 v1 v2 : Value} (h : Box3 W g v0 v1 v2) (hb : Below B W w1) (hB : g < B) : Box3 w1 g v0 v1 v2 := by
  obtain ⟨h0, h1, h2, f0, f1, f2, h4⟩ := h
  exact ⟨(hb.cell (p := ⟨g, 0, none⟩) hB).trans h0, (hb.cell (p := ⟨g, 1, none⟩) hB).trans h1, (hb.cell (p := ⟨g, 2, none⟩) hB).trans h2, (hb.frozen (p := ⟨g, 0, none⟩) hB).trans f0, (hb.frozen (p := ⟨g, 1, none⟩) hB).trans f1, (hb.frozen (p := ⟨g, 2, none⟩) hB).trans f2, Nat.lt_of_lt_of_le h4 hb.size⟩
end Go.Proofs.YtibjogbalmbeeaaGreatDoor
