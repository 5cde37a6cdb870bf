/- The walks of hexfloat.Parse and of the closure that it defers. · The walk of hexfloat.Parse, for both formats (printed by gen_parse.py). · Walks of binary: Split. -/
import Derived.Test.YtibjogbalmbeeaaGreatDoorY34
import Derived.Defers
import Derived.Recover
import Derived.Test.YtibjogbalmbeeaaGreatDoorY17

namespace Go.Proofs.YtibjogbalmbeeaaGreatDoor
open Go.RowKit

set_option maxRecDepth 100000 in
theorem catch_idle (p q : Addr) (w : World) :
    CallsD Tryz.prog 223 #[.pointer (some p), .pointer (some q)] .returning w fun e u' w' => e = .returned (.tuple #[]) ∧ u' = .returning ∧ w' = w := by
  refine callsD_of_wpS Tryz.func223 rfl fun c₀ cs hu => ?_
  apply wpS_seq
  apply wpS_region
  simp [wpOpsS, go_sem, recoverD, hu, Tryz.ntmps223, Exit.thenS]
  refine wpS_of_wp ?_
  have hfr : (#[Value.pointer (some p), Value.pointer (some q)] ++ ((Array.replicate 14 undef).setIfInBounds 3 Value.nilIface).setIfInBounds 0 Value.nilIface : Array Value) = #[.pointer (some p), .pointer (some q), .nilIface, undef, undef, .nilIface, undef, undef, undef, undef, undef, undef, undef, undef, undef, undef] := rfl
  rw [hfr]
  clear hfr
  go_wp2
  cases c₀
  simp_all [bodyPostS, results, Tryz.results223]

set_option maxRecDepth 100000 in
theorem catch_fault (p q : Addr) (j : Int) (older : List PanicEntry) (w : World) (x y : Value) (hp : w.cell? p = some x) (hq : w.cell? q = some y) (fp : w.frozen? p = false) (fq : w.frozen? q = false) (hpl : p.block < w.heap.size) (hql : q.block < w.heap.size) (hpq : p ≠ q) :
    CallsD Tryz.prog 223 #[.pointer (some p), .pointer (some q)] (.panicking (faultAt j :: older)) w fun e u' w' =>
      e = .returned (.tuple #[]) ∧ u' = .panicking ({ faultAt j with recovered := true } :: older) ∧ w' = ((w.alloc (.cells #[.int .i64 j] 281)).setCell p (.int .u64 0)).setCell q (.int .i64 8) := by
  refine callsD_of_wpS Tryz.func223 rfl fun c₀ cs hu => ?_
  apply wpS_seq
  apply wpS_region
  unfold faultAt at hu
  simp [wpOpsS, go_sem, recoverD, hu, Tryz.ntmps223, Exit.thenS]
  refine wpS_of_wp ?_
  have hfr : (#[Value.pointer (some p), Value.pointer (some q)] ++ ((Array.replicate 14 undef).setIfInBounds 3 (Value.iface 281 (.agg #[.int .i64 j]))).setIfInBounds 0 (Value.iface 281 (.agg #[.int .i64 j])) : Array Value) = #[.pointer (some p), .pointer (some q), .iface 281 (.agg #[.int .i64 j]), undef, undef, .iface 281 (.agg #[.int .i64 j]), undef, undef, undef, undef, undef, undef, undef, undef, undef, undef] := rfl
  rw [hfr]
  clear hfr
  have hta : ∀ w1 : World, (Instr.typeAssert (.iface 281 (.agg #[.int .i64 j])) 20 281 true).run Tryz.prog w1 = .ok (.tuple #[.agg #[.int .i64 j], .bool true]) w1 := fun _ => by kernel_rfl
  have h1 : (w.alloc (.cells #[.int .i64 j] 281)).cell? p = some x := cell_kept (below_alloc' w _) hp
  have h2 : (w.alloc (.cells #[.int .i64 j] 281)).cell? q = some y := cell_kept (below_alloc' w _) hq
  have h3 : (w.alloc (.cells #[.int .i64 j] 281)).frozen? p = false := ((below_alloc' w _).frozen hpl).trans fp
  have h4 : (w.alloc (.cells #[.int .i64 j] 281)).frozen? q = false := ((below_alloc' w _).frozen hql).trans fq
  have h5 : ∀ v, ((w.alloc (.cells #[.int .i64 j] 281)).setCell p v).cell? q = some y := fun v => by rw [cell_other hpq]; exact h2
  go_wp2
  cases c₀
  simp_all [bodyPostS, results, Tryz.results223, faultAt]
end Go.Proofs.YtibjogbalmbeeaaGreatDoor

namespace Go.Proofs.YtibjogbalmbeeaaGreatDoor
open Go.RowKit

/-- What Parse answers: the pattern, and the error's number. -/
def prP (f : Fm) (s : ByteArray) : Nat := if s.size ≤ 4000 then (parseOf f s).getD 0 else 0
def prE (f : Fm) (s : ByteArray) : Int := if s.size ≤ 4000 then (if (parseOf f s).isSome then 0 else 8) else 7

set_option maxRecDepth 100000 in
set_option maxHeartbeats 2000000 in
theorem parse_walk_S (s : ByteArray) (w : World) (hs : s.size ≤ 9223372036854775807) (ht : Tab64 w) :
    Calls Tryz.prog 202 #[.int .i64 32, .string s] w fun e w' => e = .returned (.tuple #[.int .u64 ((prP fmS s : Nat) : Int), .int .i64 (prE fmS s)]) ∧ Below w.heap.size w w' := by
  have HT := Lib.hid ht
  clear ht
  have hmf : ∀ (fn : Fn) (first cap : Array Value) (w : World), (Instr.makeFunc fn first cap).run Tryz.prog w = .ok (.func fn first cap) w := fun _ _ _ _ => rfl
  have hW0 : Below w.heap.size w ((w.alloc (.cells #[.int .u64 0] 23)).alloc (.cells #[.int .i64 0] 24)) := below_chain (below_alloc' w _) (below_alloc' _ _)
  have HW0 := Lib.hid hW0
  clear hW0
  by_cases hlong : s.size ≤ 4000
  case neg =>
    have hl : (4000 : Int) < (s.size : Int) := by omega
    have HP := Lib.hid (show prP fmS s = 0 by unfold prP; rw [if_neg hlong])
    have HE := Lib.hid (show prE fmS s = 7 by unfold prE; rw [if_neg hlong])
    clear hlong
    go_enter_defers Tryz.func202, Tryz.ntmps202
    go_wp2_with fail
    refine (quiet_S _).mono ?_
    rintro e w1 ⟨rfl, hb1⟩
    obtain ⟨hc1, hf1, hs1⟩ := bcell hb1
    go_wp2
    have hw1 := below_chain HW0.out hb1
    have f1 : ((w1.setCell ⟨w.heap.size, 0, none⟩ (.int .u64 0)).setCell ⟨w.heap.size + 1, 0, none⟩ (.int .i64 7)).cell? ⟨w.heap.size, 0, none⟩ = some (.int .u64 0) := by
      rw [cell_other (by simp)]; exact World.cell?_setCell_same' _ _ _ (by rw [hc1 _ _ (by simp; omega)]; simp)
    have f2 : ((w1.setCell ⟨w.heap.size, 0, none⟩ (.int .u64 0)).setCell ⟨w.heap.size + 1, 0, none⟩ (.int .i64 7)).cell? ⟨w.heap.size + 1, 0, none⟩ = some (.int .i64 7) :=
      World.cell?_setCell_same' _ _ _ (by rw [cell_other (by simp), hc1 _ _ (by simp)]; simp)
    refine ⟨.tuple #[.int .u64 0, .int .i64 7], by simp [results, Tryz.results202, go_sem, f1, f2], by rw [HP.out, HE.out]; rfl, (hw1.setCell (by simp) _).setCell (by simp) _⟩
  have hl : ¬ (4000 : Int) < (s.size : Int) := by omega
  have hs2 : s.size ≤ 4100 := by omega
  have HL := Lib.hid hlong
  clear hlong
  go_enter_defers Tryz.func202, Tryz.ntmps202
  go_wp2_with fail
  refine (quiet_S _).mono ?_
  rintro e w1 ⟨rfl, hb1⟩
  have hA1 : w1.cell? ⟨w.heap.size, 0, none⟩ = some (.int .u64 0) ∧ w1.frozen? ⟨w.heap.size, 0, none⟩ = false := ⟨by rw [(bcell hb1).1 _ _ (by simp; omega)]; simp, by rw [(bcell hb1).2.1 _ _ (by simp; omega)]; simp⟩
  have hE1 : w1.cell? ⟨w.heap.size + 1, 0, none⟩ = some (.int .i64 0) ∧ w1.frozen? ⟨w.heap.size + 1, 0, none⟩ = false := ⟨by rw [(bcell hb1).1 _ _ (by simp)]; simp, by rw [(bcell hb1).2.1 _ _ (by simp)]; simp⟩
  have hw1 := below_chain HW0.out hb1
  have hsz1 : w.heap.size + 1 < w1.heap.size := by have := hb1.size; simp at this; omega
  have HA1 := Lib.hid hA1
  have HE1 := Lib.hid hE1
  have HW1 := Lib.hid hw1
  clear hA1 hE1 hw1 hb1
  go_wp2_with fail
  have hb2 := below_alloc' w1 (.cells #[.string s, .int .i64 0] 285)
  have hB2 : Box2 (w1.alloc (.cells #[.string s, .int .i64 0] 285)) w1.heap.size (.string s) (.int .i64 0) := ⟨by simp, by simp, by simp, by simp, by simp⟩
  have hg : 5 < w1.heap.size := by
    have := World.block_lt_of_cell? w _ (HT.out 0 (by decide))
    simp only at this
    omega
  have hw2 := below_chain HW1.out hb2
  generalize w1.alloc (.cells #[.string s, .int .i64 0] 285) = w2 at *
  refine (read_walk_S w1.heap.size s w2 hB2 hs2 (HT.out.below hw2) hg).mono ?_
  rintro e w3 hpost
  rcases hpost with ⟨p, hp, rfl, hb3⟩ | ⟨hp, ⟨j, rfl⟩, hb3⟩
  · have HP := Lib.hid (show prP fmS s = p by unfold prP; rw [if_pos HL.out, hp]; rfl)
    have HE := Lib.hid (show prE fmS s = 0 by unfold prE; rw [if_pos HL.out, hp]; rfl)
    have a0 : w3.cell? ⟨w.heap.size, 0, none⟩ = some (.int .u64 0) := (hb3.cell (p := ⟨w.heap.size, 0, none⟩) (by simp; omega)).trans (cell_kept hb2 HA1.out.1)
    have a1 : w3.frozen? ⟨w.heap.size, 0, none⟩ = false := (hb3.frozen (p := ⟨w.heap.size, 0, none⟩) (by simp; omega)).trans ((hb2.frozen (p := ⟨w.heap.size, 0, none⟩) (by simp; omega)).trans HA1.out.2)
    have e0 : w3.cell? ⟨w.heap.size + 1, 0, none⟩ = some (.int .i64 0) := (hb3.cell (p := ⟨w.heap.size + 1, 0, none⟩) hsz1).trans (cell_kept hb2 HE1.out.1)
    have e1 : w3.frozen? ⟨w.heap.size + 1, 0, none⟩ = false := (hb3.frozen (p := ⟨w.heap.size + 1, 0, none⟩) hsz1).trans ((hb2.frozen (p := ⟨w.heap.size + 1, 0, none⟩) hsz1).trans HE1.out.2)
    have HW3 := Lib.hid (show Below w.heap.size w w3 from hw2.trans (hb3.mono (by omega)))
    have hsz3 := hb3.size
    clear hp hb3
    go_wp2
    refine leaves_cons (f := 223) (args := #[.pointer (some ⟨w.heap.size, 0, none⟩), .pointer (some ⟨w.heap.size + 1, 0, none⟩)]) (by simp) (by simp [go_sem]) ?_
    refine (catch_idle _ _ _).mono ?_
    rintro e u' w'' ⟨rfl, rfl, rfl⟩
    have f1 : ((w3.setCell ⟨w.heap.size, 0, none⟩ (.int .u64 (p : Int))).setCell ⟨w.heap.size + 1, 0, none⟩ (.int .i64 0)).cell? ⟨w.heap.size, 0, none⟩ = some (.int .u64 (p : Int)) := by
      rw [cell_other (by simp)]; exact World.cell?_setCell_same' _ _ _ (by rw [a0]; rfl)
    have f2 : ((w3.setCell ⟨w.heap.size, 0, none⟩ (.int .u64 (p : Int))).setCell ⟨w.heap.size + 1, 0, none⟩ (.int .i64 0)).cell? ⟨w.heap.size + 1, 0, none⟩ = some (.int .i64 0) :=
      World.cell?_setCell_same' _ _ _ (by rw [cell_other (by simp), e0]; rfl)
    refine ⟨.tuple #[.int .u64 (p : Int), .int .i64 0], by simp [results, Tryz.results202, go_sem, f1, f2], by rw [HP.out, HE.out], (HW3.out.setCell (by simp) _).setCell (by simp) _⟩
  · have HP := Lib.hid (show prP fmS s = 0 by unfold prP; rw [if_pos HL.out, hp]; rfl)
    have HE := Lib.hid (show prE fmS s = 8 by unfold prE; rw [if_pos HL.out, hp]; rfl)
    have a0 : w3.cell? ⟨w.heap.size, 0, none⟩ = some (.int .u64 0) := (hb3.cell (p := ⟨w.heap.size, 0, none⟩) (by simp; omega)).trans (cell_kept hb2 HA1.out.1)
    have a1 : w3.frozen? ⟨w.heap.size, 0, none⟩ = false := (hb3.frozen (p := ⟨w.heap.size, 0, none⟩) (by simp; omega)).trans ((hb2.frozen (p := ⟨w.heap.size, 0, none⟩) (by simp; omega)).trans HA1.out.2)
    have e0 : w3.cell? ⟨w.heap.size + 1, 0, none⟩ = some (.int .i64 0) := (hb3.cell (p := ⟨w.heap.size + 1, 0, none⟩) hsz1).trans (cell_kept hb2 HE1.out.1)
    have e1 : w3.frozen? ⟨w.heap.size + 1, 0, none⟩ = false := (hb3.frozen (p := ⟨w.heap.size + 1, 0, none⟩) hsz1).trans ((hb2.frozen (p := ⟨w.heap.size + 1, 0, none⟩) hsz1).trans HE1.out.2)
    have HW3 := Lib.hid (show Below w.heap.size w w3 from hw2.trans (hb3.mono (by omega)))
    have hsz3 := hb3.size
    have hsz2 := hb2.size
    clear hp hb3
    go_wp2
    refine leaves_cons (f := 223) (args := #[.pointer (some ⟨w.heap.size, 0, none⟩), .pointer (some ⟨w.heap.size + 1, 0, none⟩)]) (by simp) (by simp [go_sem]) ?_
    refine (catch_fault ⟨w.heap.size, 0, none⟩ ⟨w.heap.size + 1, 0, none⟩ j [] w3 _ _ a0 e0 a1 e1 (by simp; omega) (by simp; omega) (by simp)).mono ?_
    rintro e u' w'' ⟨rfl, rfl, rfl⟩
    have a2 := cell_kept (below_alloc' w3 (.cells #[.int .i64 j] 281)) a0
    have e2 := cell_kept (below_alloc' w3 (.cells #[.int .i64 j] 281)) e0
    have hw4 := below_chain HW3.out (below_alloc' w3 (.cells #[.int .i64 j] 281))
    generalize w3.alloc (.cells #[.int .i64 j] 281) = w4 at *
    have f1 : ((w4.setCell ⟨w.heap.size, 0, none⟩ (.int .u64 0)).setCell ⟨w.heap.size + 1, 0, none⟩ (.int .i64 8)).cell? ⟨w.heap.size, 0, none⟩ = some (.int .u64 0) := by
      rw [cell_other (by simp)]; exact World.cell?_setCell_same' _ _ _ (by rw [a2]; rfl)
    have f2 : ((w4.setCell ⟨w.heap.size, 0, none⟩ (.int .u64 0)).setCell ⟨w.heap.size + 1, 0, none⟩ (.int .i64 8)).cell? ⟨w.heap.size + 1, 0, none⟩ = some (.int .i64 8) :=
      World.cell?_setCell_same' _ _ _ (by rw [cell_other (by simp), e2]; rfl)
    refine ⟨.tuple #[.int .u64 0, .int .i64 8], by simp [results, Tryz.results202, go_sem, f1, f2], by rw [HP.out, HE.out]; rfl, (hw4.setCell (by simp) _).setCell (by simp) _⟩

set_option maxRecDepth 100000 in
set_option maxHeartbeats 2000000 in
theorem parse_walk_D (s : ByteArray) (w : World) (hs : s.size ≤ 9223372036854775807) (ht : Tab64 w) :
    Calls Tryz.prog 202 #[.int .i64 64, .string s] w fun e w' => e = .returned (.tuple #[.int .u64 ((prP fmD s : Nat) : Int), .int .i64 (prE fmD s)]) ∧ Below w.heap.size w w' := by
  have HT := Lib.hid ht
  clear ht
  have hmf : ∀ (fn : Fn) (first cap : Array Value) (w : World), (Instr.makeFunc fn first cap).run Tryz.prog w = .ok (.func fn first cap) w := fun _ _ _ _ => rfl
  have hW0 : Below w.heap.size w ((w.alloc (.cells #[.int .u64 0] 23)).alloc (.cells #[.int .i64 0] 24)) := below_chain (below_alloc' w _) (below_alloc' _ _)
  have HW0 := Lib.hid hW0
  clear hW0
  by_cases hlong : s.size ≤ 4000
  case neg =>
    have hl : (4000 : Int) < (s.size : Int) := by omega
    have HP := Lib.hid (show prP fmD s = 0 by unfold prP; rw [if_neg hlong])
    have HE := Lib.hid (show prE fmD s = 7 by unfold prE; rw [if_neg hlong])
    clear hlong
    go_enter_defers Tryz.func202, Tryz.ntmps202
    go_wp2_with fail
    refine (quiet_D _).mono ?_
    rintro e w1 ⟨rfl, hb1⟩
    obtain ⟨hc1, hf1, hs1⟩ := bcell hb1
    go_wp2
    have hw1 := below_chain HW0.out hb1
    have f1 : ((w1.setCell ⟨w.heap.size, 0, none⟩ (.int .u64 0)).setCell ⟨w.heap.size + 1, 0, none⟩ (.int .i64 7)).cell? ⟨w.heap.size, 0, none⟩ = some (.int .u64 0) := by
      rw [cell_other (by simp)]; exact World.cell?_setCell_same' _ _ _ (by rw [hc1 _ _ (by simp; omega)]; simp)
    have f2 : ((w1.setCell ⟨w.heap.size, 0, none⟩ (.int .u64 0)).setCell ⟨w.heap.size + 1, 0, none⟩ (.int .i64 7)).cell? ⟨w.heap.size + 1, 0, none⟩ = some (.int .i64 7) :=
      World.cell?_setCell_same' _ _ _ (by rw [cell_other (by simp), hc1 _ _ (by simp)]; simp)
    refine ⟨.tuple #[.int .u64 0, .int .i64 7], by simp [results, Tryz.results202, go_sem, f1, f2], by rw [HP.out, HE.out]; rfl, (hw1.setCell (by simp) _).setCell (by simp) _⟩
  have hl : ¬ (4000 : Int) < (s.size : Int) := by omega
  have hs2 : s.size ≤ 4100 := by omega
  have HL := Lib.hid hlong
  clear hlong
  go_enter_defers Tryz.func202, Tryz.ntmps202
  go_wp2_with fail
  refine (quiet_D _).mono ?_
  rintro e w1 ⟨rfl, hb1⟩
  have hA1 : w1.cell? ⟨w.heap.size, 0, none⟩ = some (.int .u64 0) ∧ w1.frozen? ⟨w.heap.size, 0, none⟩ = false := ⟨by rw [(bcell hb1).1 _ _ (by simp; omega)]; simp, by rw [(bcell hb1).2.1 _ _ (by simp; omega)]; simp⟩
  have hE1 : w1.cell? ⟨w.heap.size + 1, 0, none⟩ = some (.int .i64 0) ∧ w1.frozen? ⟨w.heap.size + 1, 0, none⟩ = false := ⟨by rw [(bcell hb1).1 _ _ (by simp)]; simp, by rw [(bcell hb1).2.1 _ _ (by simp)]; simp⟩
  have hw1 := below_chain HW0.out hb1
  have hsz1 : w.heap.size + 1 < w1.heap.size := by have := hb1.size; simp at this; omega
  have HA1 := Lib.hid hA1
  have HE1 := Lib.hid hE1
  have HW1 := Lib.hid hw1
  clear hA1 hE1 hw1 hb1
  go_wp2_with fail
  have hb2 := below_alloc' w1 (.cells #[.string s, .int .i64 0] 285)
  have hB2 : Box2 (w1.alloc (.cells #[.string s, .int .i64 0] 285)) w1.heap.size (.string s) (.int .i64 0) := ⟨by simp, by simp, by simp, by simp, by simp⟩
  have hg : 5 < w1.heap.size := by
    have := World.block_lt_of_cell? w _ (HT.out 0 (by decide))
    simp only at this
    omega
  have hw2 := below_chain HW1.out hb2
  generalize w1.alloc (.cells #[.string s, .int .i64 0] 285) = w2 at *
  refine (read_walk_D w1.heap.size s w2 hB2 hs2 (HT.out.below hw2) hg).mono ?_
  rintro e w3 hpost
  rcases hpost with ⟨p, hp, rfl, hb3⟩ | ⟨hp, ⟨j, rfl⟩, hb3⟩
  · have HP := Lib.hid (show prP fmD s = p by unfold prP; rw [if_pos HL.out, hp]; rfl)
    have HE := Lib.hid (show prE fmD s = 0 by unfold prE; rw [if_pos HL.out, hp]; rfl)
    have a0 : w3.cell? ⟨w.heap.size, 0, none⟩ = some (.int .u64 0) := (hb3.cell (p := ⟨w.heap.size, 0, none⟩) (by simp; omega)).trans (cell_kept hb2 HA1.out.1)
    have a1 : w3.frozen? ⟨w.heap.size, 0, none⟩ = false := (hb3.frozen (p := ⟨w.heap.size, 0, none⟩) (by simp; omega)).trans ((hb2.frozen (p := ⟨w.heap.size, 0, none⟩) (by simp; omega)).trans HA1.out.2)
    have e0 : w3.cell? ⟨w.heap.size + 1, 0, none⟩ = some (.int .i64 0) := (hb3.cell (p := ⟨w.heap.size + 1, 0, none⟩) hsz1).trans (cell_kept hb2 HE1.out.1)
    have e1 : w3.frozen? ⟨w.heap.size + 1, 0, none⟩ = false := (hb3.frozen (p := ⟨w.heap.size + 1, 0, none⟩) hsz1).trans ((hb2.frozen (p := ⟨w.heap.size + 1, 0, none⟩) hsz1).trans HE1.out.2)
    have HW3 := Lib.hid (show Below w.heap.size w w3 from hw2.trans (hb3.mono (by omega)))
    have hsz3 := hb3.size
    clear hp hb3
    go_wp2
    refine leaves_cons (f := 223) (args := #[.pointer (some ⟨w.heap.size, 0, none⟩), .pointer (some ⟨w.heap.size + 1, 0, none⟩)]) (by simp) (by simp [go_sem]) ?_
    refine (catch_idle _ _ _).mono ?_
    rintro e u' w'' ⟨rfl, rfl, rfl⟩
    have f1 : ((w3.setCell ⟨w.heap.size, 0, none⟩ (.int .u64 (p : Int))).setCell ⟨w.heap.size + 1, 0, none⟩ (.int .i64 0)).cell? ⟨w.heap.size, 0, none⟩ = some (.int .u64 (p : Int)) := by
      rw [cell_other (by simp)]; exact World.cell?_setCell_same' _ _ _ (by rw [a0]; rfl)
    have f2 : ((w3.setCell ⟨w.heap.size, 0, none⟩ (.int .u64 (p : Int))).setCell ⟨w.heap.size + 1, 0, none⟩ (.int .i64 0)).cell? ⟨w.heap.size + 1, 0, none⟩ = some (.int .i64 0) :=
      World.cell?_setCell_same' _ _ _ (by rw [cell_other (by simp), e0]; rfl)
    refine ⟨.tuple #[.int .u64 (p : Int), .int .i64 0], by simp [results, Tryz.results202, go_sem, f1, f2], by rw [HP.out, HE.out], (HW3.out.setCell (by simp) _).setCell (by simp) _⟩
  · have HP := Lib.hid (show prP fmD s = 0 by unfold prP; rw [if_pos HL.out, hp]; rfl)
    have HE := Lib.hid (show prE fmD s = 8 by unfold prE; rw [if_pos HL.out, hp]; rfl)
    have a0 : w3.cell? ⟨w.heap.size, 0, none⟩ = some (.int .u64 0) := (hb3.cell (p := ⟨w.heap.size, 0, none⟩) (by simp; omega)).trans (cell_kept hb2 HA1.out.1)
    have a1 : w3.frozen? ⟨w.heap.size, 0, none⟩ = false := (hb3.frozen (p := ⟨w.heap.size, 0, none⟩) (by simp; omega)).trans ((hb2.frozen (p := ⟨w.heap.size, 0, none⟩) (by simp; omega)).trans HA1.out.2)
    have e0 : w3.cell? ⟨w.heap.size + 1, 0, none⟩ = some (.int .i64 0) := (hb3.cell (p := ⟨w.heap.size + 1, 0, none⟩) hsz1).trans (cell_kept hb2 HE1.out.1)
    have e1 : w3.frozen? ⟨w.heap.size + 1, 0, none⟩ = false := (hb3.frozen (p := ⟨w.heap.size + 1, 0, none⟩) hsz1).trans ((hb2.frozen (p := ⟨w.heap.size + 1, 0, none⟩) hsz1).trans HE1.out.2)
    have HW3 := Lib.hid (show Below w.heap.size w w3 from hw2.trans (hb3.mono (by omega)))
    have hsz3 := hb3.size
    have hsz2 := hb2.size
    clear hp hb3
    go_wp2
    refine leaves_cons (f := 223) (args := #[.pointer (some ⟨w.heap.size, 0, none⟩), .pointer (some ⟨w.heap.size + 1, 0, none⟩)]) (by simp) (by simp [go_sem]) ?_
    refine (catch_fault ⟨w.heap.size, 0, none⟩ ⟨w.heap.size + 1, 0, none⟩ j [] w3 _ _ a0 e0 a1 e1 (by simp; omega) (by simp; omega) (by simp)).mono ?_
    rintro e u' w'' ⟨rfl, rfl, rfl⟩
    have a2 := cell_kept (below_alloc' w3 (.cells #[.int .i64 j] 281)) a0
    have e2 := cell_kept (below_alloc' w3 (.cells #[.int .i64 j] 281)) e0
    have hw4 := below_chain HW3.out (below_alloc' w3 (.cells #[.int .i64 j] 281))
    generalize w3.alloc (.cells #[.int .i64 j] 281) = w4 at *
    have f1 : ((w4.setCell ⟨w.heap.size, 0, none⟩ (.int .u64 0)).setCell ⟨w.heap.size + 1, 0, none⟩ (.int .i64 8)).cell? ⟨w.heap.size, 0, none⟩ = some (.int .u64 0) := by
      rw [cell_other (by simp)]; exact World.cell?_setCell_same' _ _ _ (by rw [a2]; rfl)
    have f2 : ((w4.setCell ⟨w.heap.size, 0, none⟩ (.int .u64 0)).setCell ⟨w.heap.size + 1, 0, none⟩ (.int .i64 8)).cell? ⟨w.heap.size + 1, 0, none⟩ = some (.int .i64 8) :=
      World.cell?_setCell_same' _ _ _ (by rw [cell_other (by simp), e2]; rfl)
    refine ⟨.tuple #[.int .u64 0, .int .i64 8], by simp [results, Tryz.results202, go_sem, f1, f2], by rw [HP.out, HE.out]; rfl, (hw4.setCell (by simp) _).setCell (by simp) _⟩

end Go.Proofs.YtibjogbalmbeeaaGreatDoor

namespace Go.Proofs.YtibjogbalmbeeaaGreatDoor
open Go.RowKit
set_option maxRecDepth 100000 in
theorem split_D (b : Nat) (hb : b < 18446744073709551616) (hfin : b % 9223372036854775808 < 9218868437227405312) (w : World) : Calls Tryz.prog 20 #[.int .i64 64, .int .u64 (b : Int)] w fun e w' => e = .returned (.tuple #[.bool (decide (9223372036854775808 ≤ b)), .int .u64 ((ptM 4503599627370496 (b % 9223372036854775808) : Nat) : Int), .int .i64 (ptE 4503599627370496 (-1074) (b % 9223372036854775808)), .int .i64 0]) ∧ Below w.heap.size w w' := by
  obtain ⟨neg, hneg⟩ : ∃ neg, decide (9223372036854775808 ≤ b) = neg := ⟨_, rfl⟩
  obtain ⟨z, hz⟩ : ∃ z, b % 9223372036854775808 = z := ⟨_, rfl⟩
  have HN := Lib.hid hneg
  have HZ := Lib.hid hz
  have HB := Lib.hid (show z < 9223372036854775808 by rw [← hz]; exact Nat.mod_lt _ (by omega))
  rw [hneg, hz]
  clear hneg hz
  go_enter Tryz.func20, Tryz.ntmps20
  go_wp2_with fail
  refine (finite_D b hb hfin _).mono ?_
  rintro e w1 ⟨rfl, hb1⟩
  rw [HN.out, HZ.out]
  clear hb hfin HN HZ
  have hb2 := below_alloc' w1 (.cells #[.int .i64 64, .int .i64 53, .int .i64 (-1074), .int .u64 9221120237041090561] 78)
  go_wp2_with fail
  refine (parts_D z HB.out _).mono ?_
  rintro e w2 ⟨rfl, hb3⟩
  go_wp2
  refine bodyPost_ret (v := .tuple #[.bool neg, .int .u64 ((ptM 4503599627370496 z : Nat) : Int), .int .i64 (ptE 4503599627370496 (-1074) z), .int .i64 0]) (by simp [results, Tryz.results20, go_sem]) rfl ⟨rfl, ?_⟩
  exact below_chain (below_chain hb1 hb2) hb3
end Go.Proofs.YtibjogbalmbeeaaGreatDoor
