/- Words on digits of 32 bits: a list of them that is read, a natural at a value; slices of the call's own that grow. -/
import Derived.Test.YtooehlneoboenaaGreatDoorWa
import Derived.Test.YtooehlneoboenaaGreatDoorVa
import Derived.Laws.CopyRow
import Derived.Laws.AppendOwn
import Derived.OwnWalk
namespace Go.Proofs.YtooehlneoboenaaGreatDoor
open Go.RowKit

/-- The digits l can be read at A. -/
def RdD (w : World) (A : Option Addr) (l : List Nat) : Prop :=
  0 < l.length → ∃ ad, A = some ad ∧ ∀ j, j < l.length → w.cell? (ad.add j) = some (.int .u32 ((el l j : Nat) : Int))
/-- v is a slice of the digits l. -/
def LsD (w : World) (v : Value) (l : List Nat) : Prop := ∃ A c, v = .slice A l.length c ∧ l.length ≤ c ∧ (A = none → c = 0) ∧ RdD w A l
/-- v is a slice of the digits of the natural a. -/
def DgAt (w : World) (v : Value) (a : Nat) : Prop := LsD w v (toD a)
theorem RdD.nil (w : World) (A : Option Addr) : RdD w A [] := fun h => absurd h (by simp)
theorem RdD.below {w w1 : World} {A : Option Addr} {l : List Nat} (h : RdD w A l) (hb : Below w.heap.size w w1) : RdD w1 A l := fun hl => by
  obtain ⟨ad, e, hc⟩ := h hl
  exact ⟨ad, e, fun j hj => cell_kept hb (hc j hj)⟩
theorem LsD.below {w w1 : World} {v : Value} {l : List Nat} (h : LsD w v l) (hb : Below w.heap.size w w1) : LsD w1 v l := by
  obtain ⟨A, c, e, hc, hz, hr⟩ := h
  exact ⟨A, c, e, hc, hz, hr.below hb⟩
theorem DgAt.below {w w1 : World} {v : Value} {a : Nat} (h : DgAt w v a) (hb : Below w.heap.size w w1) : DgAt w1 v a := LsD.below h hb
theorem LsD.nil (w : World) : LsD w (.slice none 0 0) [] := ⟨none, 0, rfl, Nat.le_refl _, fun _ => rfl, RdD.nil _ _⟩
theorem DgAt.nil (w : World) : DgAt w (.slice none 0 0) 0 := by unfold DgAt; rw [toD_zero]; exact LsD.nil w
/-- The digits as cells. -/
def UD (l : List Nat) : Array Value := (l.map fun x => Value.int .u32 ((x : Nat) : Int)).toArray
/-- Block g holds just the digits l. -/
def BlD (w : World) (g : Nat) (l : List Nat) : Prop := w.heap[g]? = some (.cells (UD l) 90 (0, 0))
theorem UD_get {l : List Nat} {j : Nat} (h : j < l.length) : (UD l)[j]? = some (.int .u32 ((el l j : Nat) : Int)) := by
  simp [UD, el, List.getD_eq_getElem?_getD, List.getElem?_eq_getElem h]
theorem UD_size (l : List Nat) : (UD l).size = l.length := by simp [UD]
theorem BlD.cell {w : World} {g : Nat} {l : List Nat} (h : BlD w g l) {j : Nat} (hj : j < l.length) : w.cell? ⟨g, j, none⟩ = some (.int .u32 ((el l j : Nat) : Int)) :=
  (cell_of_row w g j _ _ (0, 0) h).trans (UD_get hj)
theorem BlD.frozen {w : World} {g : Nat} {l : List Nat} (h : BlD w g l) (j : Nat) : w.frozen? ⟨g, j, none⟩ = false := by
  unfold BlD at h; simp [World.frozen?, h]
theorem BlD.lt {w : World} {g : Nat} {l : List Nat} (h : BlD w g l) : g < w.heap.size := (Array.getElem?_eq_some_iff.1 h).1
theorem BlD.read {w : World} {g : Nat} {l : List Nat} (h : BlD w g l) : RdD w (some ⟨g, 0, none⟩) l := fun _ =>
  ⟨_, rfl, fun j hj => by rw [add_flat]; exact h.cell hj⟩
theorem BlD.ls {w : World} {g : Nat} {l : List Nat} (h : BlD w g l) (c : Nat) (hc : l.length ≤ c) : LsD w (.slice (some ⟨g, 0, none⟩) l.length c) l :=
  ⟨_, c, rfl, hc, (fun e => by cases e), h.read⟩
theorem BlD.new (w : World) (l : List Nat) : BlD (w.alloc (.cells (UD l) 90)) w.heap.size l := heap_alloc_new w _
theorem BlD.below {w w1 : World} {g : Nat} {l : List Nat} (h : BlD w g l) (hb : Below w.heap.size w w1) : BlD w1 g l := (hb.block g h.lt).trans h
theorem BlD.set {w : World} {g : Nat} {l : List Nat} (h : BlD w g l) (i x : Nat) : BlD (w.setCell ⟨g, i, none⟩ (.int .u32 ((x : Nat) : Int))) g (l.set i x) := by
  unfold BlD at h
  have h2 : (w.setCell ⟨g, i, none⟩ (.int .u32 ((x : Nat) : Int))).heap[g]? = some (.cells ((UD l).setIfInBounds i (.int .u32 ((x : Nat) : Int))) 90 (0, 0)) := by
    simp [World.setCell, Array.getElem?_modify, h]
  rw [BlD, h2]
  simp [UD, List.map_set]
theorem UD_zeros (m : Nat) : UD (List.replicate m 0) = madeCells #[.int .u32 0] m := by
  apply Array.ext'
  apply List.ext_getElem
  · simp [UD, madeCells]
  · intro i h1 h2
    simp [UD, madeCells, Nat.mod_one]
/-- make([]uint32, m): a rule of the walk. -/
theorem make_u32 (m : Nat) (hm : m ≤ 1000000) : ∀ W : World, (Instr.makeSlice 63 (.int .i64 (m : Int)) (.int .i64 (m : Int))).run Tryz.prog W = .ok (.slice (some ⟨W.heap.size, 0, none⟩) m m) (W.alloc (.cells (UD (List.replicate m 0)) 90)) := by
  intro W
  rw [UD_zeros]
  exact run_make_row' 63 90 (.int .u32 0) 4 Tryz.underlying63 (by kernel_rfl) rfl .i64 .i64 m (by omega) (by omega) W
/-- copy(dst, src) from digits onto a block of the call's own of the same length. -/
theorem copy_u32 (W : World) (g : Nat) (cur l : List Nat) (hl : l.length = cur.length) (hg : BlD W g cur) (A : Option Addr) (c : Nat) (hA : A = none → c = 0) (hr : RdD W A l) :
    ∃ w1, (Builtin.copy_ #[63, 63] 3 #[.slice (some ⟨g, 0, none⟩) cur.length cur.length, .slice A l.length c]).run Tryz.prog W = .ok (goInt l.length) w1 ∧ BlD w1 g l ∧ (∀ B, B ≤ g → ∀ w, Below B w W → Below B w w1) := by
  have hi : (Tryz.prog.info? 90).map (·.size) = some 1 := by kernel_rfl
  by_cases h0 : l.length = 0 ∧ A = none
  · have hc0 : c = 0 := hA h0.2
    have hl0 : l = [] := List.eq_nil_of_length_eq_zero h0.1
    have hcur : cur = [] := List.eq_nil_of_length_eq_zero (by omega)
    subst hl0; subst hcur
    rw [h0.2, hc0]
    refine ⟨W, run_copy_nil Tryz.prog W _ _ _ 90 _ _ _ Tryz.underlying63 (by kernel_rfl), hg, fun B hB w hb => hb⟩
  · obtain ⟨ad, rfl, hcell⟩ : ∃ ad, A = some ad ∧ ∀ j, j < l.length → W.cell? (ad.add j) = some (.int .u32 ((el l j : Nat) : Int)) := by
      by_cases h1 : l.length = 0
      · cases A with
        | none => exact absurd ⟨h1, rfl⟩ h0
        | some a => exact ⟨a, rfl, fun j hj => by omega⟩
      · exact hr (by omega)
    have hrun := run_copy_row Tryz.prog W 63 63 3 90 g 0 cur.length cur.length ad l.length c (UD cur) 90 (UD l).toList Tryz.underlying63 hi hg
      (by rw [Array.length_toList, UD_size, hl]; exact (Nat.min_self _).symm) (fun j v hv => by
        have hj : j < l.length := by
          have := (List.getElem?_eq_some_iff.1 hv).1
          rwa [Array.length_toList, UD_size] at this
        rw [Array.getElem?_toList, UD_get hj] at hv
        rw [hcell j hj]; exact hv) (by rw [Array.length_toList, UD_size, UD_size, hl]; omega)
      (fun v hv => by
        simp only [UD, List.mem_map] at hv
        obtain ⟨x, _, rfl⟩ := hv
        rfl)
    refine ⟨_, by rw [hrun, Array.length_toList, UD_size], ?_, fun B hB w hb => ?_⟩
    · have e : ((UD cur).toList.take 0 ++ (UD l).toList ++ (UD cur).toList.drop (0 + l.length)).toArray = UD l := by
        have h2 : (UD cur).toList.drop (0 + l.length) = [] := by
          apply List.drop_eq_nil_of_le
          rw [Array.length_toList, UD_size]; omega
        rw [h2]; simp
      rw [e]
      exact setRow_heap W g (UD cur) (UD l) 90 (0, 0) hg
    · refine ⟨hb.os, hb.tape, hb.output, ?_, fun i hi2 => ?_⟩
      · have := hb.size
        simpa [World.setRow] using this
      · rw [← hb.block i hi2]
        simp only [World.setRow]
        rw [Array.getElem?_modify, if_neg (by omega)]

/-- The value v is a slice of the call's own, from block B on, of the digits l. -/
def OwD (w : World) (B : Nat) (v : Value) (l : List Nat) : Prop := w.ownsRow B 90 1 v l.length (UD l).toList
theorem UD_app (a b : List Nat) : (UD a).toList ++ (UD b).toList = (UD (a ++ b)).toList := by simp [UD]
theorem OwD.ls {w : World} {B : Nat} {v : Value} {l : List Nat} (h : OwD w B v l) : LsD w v l := by
  rcases h.2 with ⟨rfl, hn⟩ | ⟨g, cap, cur, rfl, hb, hg, hn, hm, hs, ht⟩
  · have : l = [] := List.eq_nil_of_length_eq_zero hn
    subst this
    exact LsD.nil w
  · refine ⟨some ⟨g, 0, none⟩, cap, rfl, hn, (fun e => by cases e), fun _ => ⟨_, rfl, fun j hj => ?_⟩⟩
    refine World.ownsRow.cells h (g := g) rfl j _ ?_
    rw [Array.getElem?_toList]; exact UD_get hj
theorem OwD.block {w : World} {B : Nat} {v : Value} {l : List Nat} (h : OwD w B v l) : ∀ k, v.ownBlock = some k → B ≤ k := fun k hk => (World.ownsRow.lt h k hk).1
theorem OwD.alloc {w : World} {B : Nat} {v : Value} {l : List Nat} (h : OwD w B v l) (o : Obj) : OwD (w.alloc o) B v l := World.ownsRow.alloc h o
theorem OwD.nil (w : World) (B : Nat) : OwD w B (.slice none 0 0) [] := World.ownsRow_nil w B _ 1
theorem OwD.made {w : World} {B : Nat} (cur : Array Value) (cap : Nat) (hb : B ≤ w.heap.size) (hm : cap ≤ 1000000) (hs : cur.size = cap) : OwD (w.alloc (.cells cur 90)) B (.slice (some ⟨w.heap.size, 0, none⟩) 0 cap) [] :=
  World.ownsRow_made w cur cap hb (by unfold maxLen; omega) (by omega)
theorem below_grown {B : Nat} {w W W' : World} {row : Option Nat} (h : Below B w W) (hB : B ≤ W.heap.size) (g : W.grownBy W' row) (hr : ∀ k, row = some k → B ≤ k) : Below B w W' := by
  refine ⟨g.os.trans h.os, g.tape.trans h.tape, g.output.trans h.output, Nat.le_trans h.size g.size, fun i hi => ?_⟩
  rw [g.block i (by omega) (fun e => by have := hr i e.symm; omega)]
  exact h.block i hi
end Go.Proofs.YtooehlneoboenaaGreatDoor
