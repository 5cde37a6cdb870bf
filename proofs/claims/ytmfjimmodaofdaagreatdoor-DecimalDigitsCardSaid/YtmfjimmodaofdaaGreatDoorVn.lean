/- Walk of gnomonref11: size. -/
import Derived.Test.YtmfjimmodaofdaaGreatDoorVk
import Derived.Test.YtmfjimmodaofdaaGreatDoorEd
namespace Go.Proofs.YtmfjimmodaofdaaGreatDoor
open Go.RowKit

/-- What size keeps: the format's box, the digits. -/
structure SiS (w W : World) (sg P L G I Q : Int) (v : Value) (d : Nat) : Prop where
  x0 : W.cell? ⟨w.heap.size, 0, none⟩ = some (.int .u64 sg)
  x1 : W.cell? ⟨w.heap.size, 1, none⟩ = some (.int .i64 P)
  x2 : W.cell? ⟨w.heap.size, 2, none⟩ = some (.int .i64 L)
  x3 : W.cell? ⟨w.heap.size, 3, none⟩ = some (.int .i64 G)
  x4 : W.cell? ⟨w.heap.size, 4, none⟩ = some (.int .u64 I)
  x5 : W.cell? ⟨w.heap.size, 5, none⟩ = some (.int .u64 Q)
  dd : DgAt W v d
  bl : Below w.heap.size w W
theorem SiS.below {w W W2 : World} {sg P L G I Q : Int} {v : Value} {d : Nat} (h : SiS w W sg P L G I Q v d) (hb : Below W.heap.size W W2) : SiS w W2 sg P L G I Q v d :=
  ⟨cell_kept hb h.x0, cell_kept hb h.x1, cell_kept hb h.x2, cell_kept hb h.x3, cell_kept hb h.x4, cell_kept hb h.x5, h.dd.below hb, below_chain h.bl hb⟩
theorem SiS.belowH {w W W2 : World} {sg P L G I Q : Int} {v : Value} {d : Nat} (h : Hid (SiS w W sg P L G I Q v d)) (hb : Below W.heap.size W W2) : SiS w W2 sg P L G I Q v d := h.out.below hb
theorem SiS.conj {w W : World} {sg P L G I Q : Int} {v : Value} {d : Nat} (h : SiS w W sg P L G I Q v d) : W.cell? ⟨w.heap.size, 0, none⟩ = some (.int .u64 sg) ∧ W.cell? ⟨w.heap.size, 1, none⟩ = some (.int .i64 P) ∧ W.cell? ⟨w.heap.size, 2, none⟩ = some (.int .i64 L) ∧ W.cell? ⟨w.heap.size, 3, none⟩ = some (.int .i64 G) ∧ W.cell? ⟨w.heap.size, 4, none⟩ = some (.int .u64 I) ∧ W.cell? ⟨w.heap.size, 5, none⟩ = some (.int .u64 Q) ∧ Hid (SiS w W sg P L G I Q v d) := ⟨h.x0, h.x1, h.x2, h.x3, h.x4, h.x5, Lib.hid h⟩
end Go.Proofs.YtmfjimmodaofdaaGreatDoor
