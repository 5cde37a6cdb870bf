/- The walks of hexfloat.Parse and of the closure that it defers. -/
import Derived.Test.YtooehlneoboenaaGreatDoorHg
import Derived.Defers
import Derived.Recover
namespace Go.Proofs.YtooehlneoboenaaGreatDoor
open Go.RowKit

set_option maxRecDepth 100000 in
theorem catch_idle (p q : Addr) (w : World) :
    CallsD Tryz.prog 13 #[.pointer (some p), .pointer (some q)] .returning w fun e u' w' => e = .returned (.tuple #[]) ∧ u' = .returning ∧ w' = w := by
  refine callsD_of_wpS Tryz.func13 rfl fun c₀ cs hu => ?_
  apply wpS_seq
  apply wpS_region
  simp [wpOpsS, go_sem, recoverD, hu, Tryz.ntmps13, Exit.thenS]
  refine wpS_of_wp ?_
  have hfr : (#[Value.pointer (some p), Value.pointer (some q)] ++ ((Array.replicate 14 undef).setIfInBounds 3 Value.nilIface).setIfInBounds 0 Value.nilIface : Array Value) = #[.pointer (some p), .pointer (some q), .nilIface, undef, undef, .nilIface, undef, undef, undef, undef, undef, undef, undef, undef, undef, undef] := rfl
  rw [hfr]
  clear hfr
  go_wp2
  cases c₀
  simp_all [bodyPostS, results, Tryz.results13]

set_option maxRecDepth 100000 in
theorem catch_fault (p q : Addr) (j : Int) (older : List PanicEntry) (w : World) (x y : Value) (hp : w.cell? p = some x) (hq : w.cell? q = some y) (fp : w.frozen? p = false) (fq : w.frozen? q = false) (hpl : p.block < w.heap.size) (hql : q.block < w.heap.size) (hpq : p ≠ q) :
    CallsD Tryz.prog 13 #[.pointer (some p), .pointer (some q)] (.panicking (faultAt j :: older)) w fun e u' w' =>
      e = .returned (.tuple #[]) ∧ u' = .panicking ({ faultAt j with recovered := true } :: older) ∧ w' = ((w.alloc (.cells #[.int .i64 j] 43)).setCell p (.int .u64 0)).setCell q (.int .i64 8) := by
  refine callsD_of_wpS Tryz.func13 rfl fun c₀ cs hu => ?_
  apply wpS_seq
  apply wpS_region
  unfold faultAt at hu
  simp [wpOpsS, go_sem, recoverD, hu, Tryz.ntmps13, Exit.thenS]
  refine wpS_of_wp ?_
  have hfr : (#[Value.pointer (some p), Value.pointer (some q)] ++ ((Array.replicate 14 undef).setIfInBounds 3 (Value.iface 43 (.agg #[.int .i64 j]))).setIfInBounds 0 (Value.iface 43 (.agg #[.int .i64 j])) : Array Value) = #[.pointer (some p), .pointer (some q), .iface 43 (.agg #[.int .i64 j]), undef, undef, .iface 43 (.agg #[.int .i64 j]), undef, undef, undef, undef, undef, undef, undef, undef, undef, undef] := rfl
  rw [hfr]
  clear hfr
  have hta : ∀ w1 : World, (Instr.typeAssert (.iface 43 (.agg #[.int .i64 j])) 20 43 true).run Tryz.prog w1 = .ok (.tuple #[.agg #[.int .i64 j], .bool true]) w1 := fun _ => by kernel_rfl
  have h1 : (w.alloc (.cells #[.int .i64 j] 43)).cell? p = some x := cell_kept (below_alloc' w _) hp
  have h2 : (w.alloc (.cells #[.int .i64 j] 43)).cell? q = some y := cell_kept (below_alloc' w _) hq
  have h3 : (w.alloc (.cells #[.int .i64 j] 43)).frozen? p = false := ((below_alloc' w _).frozen hpl).trans fp
  have h4 : (w.alloc (.cells #[.int .i64 j] 43)).frozen? q = false := ((below_alloc' w _).frozen hql).trans fq
  have h5 : ∀ v, ((w.alloc (.cells #[.int .i64 j] 43)).setCell p v).cell? q = some y := fun v => by rw [cell_other hpq]; exact h2
  go_wp2
  cases c₀
  simp_all [bodyPostS, results, Tryz.results13, faultAt]
end Go.Proofs.YtooehlneoboenaaGreatDoor
