/- Walks of binary at what is no format, or no pattern of it. -/
import Derived.Test.YtmfjimmodaofdaaGreatDoorBc
namespace Go.Proofs.YtmfjimmodaofdaaGreatDoor
open Go.RowKit
set_option maxRecDepth 100000 in
theorem shapeOf_no (f : Int) (h1 : f ≠ 32) (h2 : f ≠ 64) (w : World) : Calls Tryz.prog 47 #[.int .i64 f] w fun e w' => e = .returned (.agg #[.int .i64 0, .int .i64 0, .int .i64 0, .int .u64 0]) ∧ Below w.heap.size w w' := by
  obtain ⟨e1, e2⟩ := no_fmt h1 h2
  go_enter Tryz.func47, Tryz.ntmps47
  go_wp2
  refine bodyPost_ret (v := .agg #[.int .i64 0, .int .i64 0, .int .i64 0, .int .u64 0]) (by simp [results, Tryz.results47, go_sem]) rfl ⟨rfl, ?_⟩
  exact below_alloc' w _

set_option maxRecDepth 100000 in
theorem quiet_no (f : Int) (h1 : f ≠ 32) (h2 : f ≠ 64) (w : World) : Calls Tryz.prog 17 #[.int .i64 f] w fun e w' => e = .returned (.tuple #[.int .u64 0, .int .i64 1]) ∧ Below w.heap.size w w' := by
  go_enter Tryz.func17, Tryz.ntmps17
  go_wp2_with fail
  refine (shapeOf_no f h1 h2 w).mono ?_
  rintro e w1 ⟨rfl, hb1⟩
  go_wp2
  go_ret2
  exact ⟨rfl, below_chain hb1 (below_alloc' w1 _)⟩

/-- What a take that fails has left in its first result. -/
theorem four_set {W : World} {g : Nat} (hA : Any4 W g) (v0 v1 v2 v3 : Value) :
    ((((W.setCell ⟨g, 0, none⟩ v0).setCell ⟨g, 1, none⟩ v1).setCell ⟨g, 2, none⟩ v2).setCell ⟨g, 3, none⟩ v3).cell? ⟨g, 0, none⟩ = some v0 ∧
    ((((W.setCell ⟨g, 0, none⟩ v0).setCell ⟨g, 1, none⟩ v1).setCell ⟨g, 2, none⟩ v2).setCell ⟨g, 3, none⟩ v3).cell? ⟨g, 1, none⟩ = some v1 ∧
    ((((W.setCell ⟨g, 0, none⟩ v0).setCell ⟨g, 1, none⟩ v1).setCell ⟨g, 2, none⟩ v2).setCell ⟨g, 3, none⟩ v3).cell? ⟨g, 2, none⟩ = some v2 ∧
    ((((W.setCell ⟨g, 0, none⟩ v0).setCell ⟨g, 1, none⟩ v1).setCell ⟨g, 2, none⟩ v2).setCell ⟨g, 3, none⟩ v3).cell? ⟨g, 3, none⟩ = some v3 := by
  obtain ⟨⟨x0, x1, x2, x3, g0, g1, g2, g3⟩, _⟩ := hA
  refine ⟨?_, ?_, ?_, ?_⟩
  · rw [cell_other (by simp), cell_other (by simp), cell_other (by simp)]; exact World.cell?_setCell_same' _ _ _ (by rw [g0]; rfl)
  · rw [cell_other (by simp), cell_other (by simp)]; exact World.cell?_setCell_same' _ _ _ (by rw [cell_other (by simp), g1]; rfl)
  · rw [cell_other (by simp)]; exact World.cell?_setCell_same' _ _ _ (by rw [cell_other (by simp), cell_other (by simp), g2]; rfl)
  · exact World.cell?_setCell_same' _ _ _ (by rw [cell_other (by simp), cell_other (by simp), cell_other (by simp), g3]; rfl)

set_option maxRecDepth 100000 in
set_option maxHeartbeats 1000000 in
theorem btake_no (f : Int) (h1 : f ≠ 32) (h2 : f ≠ 64) (b : Nat) (w : World) : Calls Tryz.prog 82 #[.int .i64 f, .int .u64 (b : Int)] w fun e w' => e = .returned (.tuple #[.agg #[.int .i64 0, .int .i64 0, .int .i64 0, .int .u64 0], .bool false, .int .u64 0, .int .i64 1]) ∧ Below w.heap.size w w' := by
  have HS := Lib.hid (fun w => shapeOf_no f h1 h2 w)
  have hw1 := below_alloc' w (.cells #[.int .i64 0, .int .i64 0, .int .i64 0, .int .u64 0] 87)
  have hA : Any4 (w.alloc (.cells #[.int .i64 0, .int .i64 0, .int .i64 0, .int .u64 0] 87)) w.heap.size := ⟨⟨.int .i64 0, .int .i64 0, .int .i64 0, .int .u64 0, by simp, by simp, by simp, by simp⟩, by simp, by simp, by simp, by simp, by simp⟩
  clear h1 h2
  go_enter Tryz.func82, Tryz.ntmps82
  go_wp2_with fail
  refine (HS.out _).mono ?_
  rintro e w1 ⟨rfl, hb1⟩
  have hb2 := below_alloc' w1 (.cells #[.int .i64 0, .int .i64 0, .int .i64 0, .int .u64 0] 87)
  have hA1 := hA.below hb1
  have hA2 := hA1.below hb2
  have HW2 := Lib.hid (below_chain (below_chain hw1 hb1) hb2)
  obtain ⟨⟨x0, x1, x2, x3, g0, g1, g2, g3⟩, k0, k1, k2, k3, k4⟩ := hA2
  go_wp2
  obtain ⟨r0, r1, r2, r3⟩ := four_set (hA1.below hb2) (.int .i64 0) (.int .i64 0) (.int .i64 0) (.int .u64 0)
  refine bodyPost_ret (v := .tuple #[.agg #[.int .i64 0, .int .i64 0, .int .i64 0, .int .u64 0], .bool false, .int .u64 0, .int .i64 1]) (by simp [results, Tryz.results82, go_sem, r0, r1, r2, r3]) rfl ⟨rfl, ?_⟩
  exact (((HW2.out.setCell (by simp) _).setCell (by simp) _).setCell (by simp) _).setCell (by simp) _

set_option maxRecDepth 100000 in
set_option maxHeartbeats 1000000 in
theorem btake_wide (b : Nat) (hb : 4294967296 ≤ b) (hb2 : b < 18446744073709551616) (w : World) : Calls Tryz.prog 82 #[.int .i64 32, .int .u64 (b : Int)] w fun e w' => e = .returned (.tuple #[.agg #[.int .i64 32, .int .i64 24, .int .i64 (-149), .int .u64 2143289345], .bool false, .int .u64 0, .int .i64 2]) ∧ Below w.heap.size w w' := by
  have hw1 := below_alloc' w (.cells #[.int .i64 0, .int .i64 0, .int .i64 0, .int .u64 0] 87)
  have hA : Any4 (w.alloc (.cells #[.int .i64 0, .int .i64 0, .int .i64 0, .int .u64 0] 87)) w.heap.size := ⟨⟨.int .i64 0, .int .i64 0, .int .i64 0, .int .u64 0, by simp, by simp, by simp, by simp⟩, by simp, by simp, by simp, by simp, by simp⟩
  have hne : ((b : Int) / 4294967296 != 0) = true := by rw [bne_iff_ne]; omega
  clear hb hb2
  go_enter Tryz.func82, Tryz.ntmps82
  go_wp2_with fail
  refine (shapeOf_S _).mono ?_
  rintro e w1 ⟨rfl, hb1⟩
  have hb2 := below_alloc' w1 (.cells #[.int .i64 32, .int .i64 24, .int .i64 (-149), .int .u64 2143289345] 87)
  have hA1 := hA.below hb1
  have hA2 := hA1.below hb2
  have HW2 := Lib.hid (below_chain (below_chain hw1 hb1) hb2)
  obtain ⟨⟨x0, x1, x2, x3, g0, g1, g2, g3⟩, k0, k1, k2, k3, k4⟩ := hA2
  go_wp2
  obtain ⟨r0, r1, r2, r3⟩ := four_set (hA1.below hb2) (.int .i64 32) (.int .i64 24) (.int .i64 (-149)) (.int .u64 2143289345)
  refine bodyPost_ret (v := .tuple #[.agg #[.int .i64 32, .int .i64 24, .int .i64 (-149), .int .u64 2143289345], .bool false, .int .u64 0, .int .i64 2]) (by simp [results, Tryz.results82, go_sem, r0, r1, r2, r3]) rfl ⟨rfl, ?_⟩
  exact (((HW2.out.setCell (by simp) _).setCell (by simp) _).setCell (by simp) _).setCell (by simp) _

set_option maxRecDepth 100000 in
theorem classOf_no (f : Int) (h1 : f ≠ 32) (h2 : f ≠ 64) (b : Nat) (w : World) : Calls Tryz.prog 37 #[.int .i64 f, .int .u64 (b : Int)] w fun e w' => e = .returned (.tuple #[.int .i64 0, .int .i64 1]) ∧ Below w.heap.size w w' := by
  have HS := Lib.hid (fun w => btake_no f h1 h2 b w)
  clear h1 h2
  go_enter Tryz.func37, Tryz.ntmps37
  go_wp2_with fail
  refine (HS.out _).mono ?_
  rintro e w1 ⟨rfl, hb1⟩
  go_wp2
  go_ret2
  exact ⟨rfl, below_chain hb1 (below_alloc' w1 _)⟩

set_option maxRecDepth 100000 in
theorem classOf_wide (b : Nat) (hb : 4294967296 ≤ b) (hb2 : b < 18446744073709551616) (w : World) : Calls Tryz.prog 37 #[.int .i64 32, .int .u64 (b : Int)] w fun e w' => e = .returned (.tuple #[.int .i64 0, .int .i64 2]) ∧ Below w.heap.size w w' := by
  have HS := Lib.hid (fun w => btake_wide b hb hb2 w)
  clear hb hb2
  go_enter Tryz.func37, Tryz.ntmps37
  go_wp2_with fail
  refine (HS.out _).mono ?_
  rintro e w1 ⟨rfl, hb1⟩
  go_wp2
  go_ret2
  exact ⟨rfl, below_chain hb1 (below_alloc' w1 _)⟩
end Go.Proofs.YtmfjimmodaofdaaGreatDoor
