/- Facts for Print: texts joined, hexadecimal digits of a fraction, the table of powers of ten. -/
import Derived.Test.YtooehlneoboenaaGreatDoorSa
import Derived.Lib.ItoaMem
namespace Go.Proofs.YtooehlneoboenaaGreatDoor
open Go.RowKit Go.Sort

/-- The library's table of powers of ten stands in its variable. -/
def Tab10 (w : World) : Prop := Lib.TabIs Tryz.prog w "internal/strconv.uint64pow10" .u64 Lib.pow10Tab
theorem Tab10.lt {w : World} (h : Tab10 w) : 0 < w.heap.size := by
  unfold Tab10 Lib.TabIs World.var? at h
  have hg : Tryz.prog.globalNamed "internal/strconv.uint64pow10" = some 0 := by kernel_rfl
  rw [hg] at h
  simp only [Option.bind_some] at h
  rcases Nat.lt_or_ge 0 w.heap.size with h' | h'
  · exact h'
  · rw [Array.getElem?_eq_none h'] at h; simp at h
theorem Tab10.low {B : Nat} {w w1 : World} (h : Tab10 w) (hb : Below B w w1) (hB : 0 < B) : Tab10 w1 := by
  unfold Tab10 Lib.TabIs World.var? at *
  have hg : Tryz.prog.globalNamed "internal/strconv.uint64pow10" = some 0 := by kernel_rfl
  rw [hg] at h ⊢
  simp only [Option.bind_some] at h ⊢
  rw [hb.block _ hB]
  exact h
theorem Tab10.below {w w1 : World} (h : Tab10 w) (hb : Below w.heap.size w w1) : Tab10 w1 := h.low hb h.lt
theorem below_grow {B : Nat} {w W : World} (h : Below B w W) (hB : B ≤ W.heap.size) (os : Array Obj) : Below B w (grow W os) := by
  refine ⟨h.os, h.tape, h.output, ?_, fun i hi => ?_⟩
  · have := h.size; simp [grow]; omega
  · rw [← h.block i hi]
    simp only [grow]
    rw [Array.getElem?_append_left (by omega)]
theorem bs_app (a b : List UInt8) : (⟨a.toArray⟩ : ByteArray) ++ ⟨b.toArray⟩ = ⟨(a ++ b).toArray⟩ := by
  apply ByteArray.ext
  simp
/-- The hexadecimal digits of r as a fraction of 2^64. -/
def digs : Nat → Nat → List UInt8
  | 0, _ => []
  | f + 1, r => if r = 0 then [] else hxDig (r / 2 ^ 60) :: digs f (r * 16 % 2 ^ 64)
theorem digs_zero (f : Nat) : digs f 0 = [] := by cases f <;> simp [digs]
theorem digs_step {k r : Nat} (h : k < 16) (hr : r ≠ 0) : digs (16 - k) r = hxDig (r / 2 ^ 60) :: digs (16 - (k + 1)) (r * 16 % 2 ^ 64) := by
  rw [show 16 - k = (16 - (k + 1)) + 1 by omega, digs, if_neg hr]
theorem dvd_step {k r : Nat} (h : k < 16) (hd : 16 ^ k ∣ r) : 16 ^ (k + 1) ∣ r * 16 % 2 ^ 64 := by
  have h1 : 16 ^ (k + 1) ∣ r * 16 := by rw [Nat.pow_succ]; exact Nat.mul_dvd_mul_right hd 16
  have h2 : 16 ^ (k + 1) ∣ 2 ^ 64 := by
    rw [show (2 : Nat) ^ 64 = 16 ^ 16 from rfl]; exact Nat.pow_dvd_pow 16 (by omega)
  exact (Nat.dvd_mod_iff h2).2 h1
theorem dvd_end {r : Nat} (hr : r < 2 ^ 64) (hd : 16 ^ 16 ∣ r) : r = 0 := by
  obtain ⟨q, hq⟩ := hd
  rw [show (2 : Nat) ^ 64 = 16 ^ 16 from rfl] at hr
  rw [hq] at hr
  have : q < 1 := Nat.lt_of_mul_lt_mul_left (a := 16 ^ 16) (by omega)
  rw [hq]; simp; omega
theorem nd_le : ∀ (k u : Nat), u < 10 ^ (k + 1) → Lib.nDigits u ≤ k + 1
  | 0, u, h => by rw [Lib.nDigits_small (by omega)]; omega
  | k + 1, u, h => by
    by_cases h1 : u < 10
    · rw [Lib.nDigits_small h1]; omega
    · rw [Lib.nDigits_big h1]
      have := nd_le k (u / 10) (by rw [Nat.pow_succ] at h; omega)
      omega
theorem itoa_len (y : Int) (h0 : -10000000 ≤ y) (h1 : y ≤ 10000000) : (Lib.itoa y).length ≤ 20 := by
  by_cases h : y < 0
  · obtain ⟨u, rfl⟩ : ∃ u : Nat, y = -(u : Int) := ⟨y.natAbs, by omega⟩
    rw [Lib.itoa_neg u (by omega), List.length_cons, Lib.decDigits_length]
    have := nd_le 8 u (by omega)
    omega
  · obtain ⟨u, rfl⟩ : ∃ u : Nat, y = (u : Int) := ⟨y.toNat, by omega⟩
    rw [Lib.itoa_nonneg, Lib.decDigits_length]
    have := nd_le 8 u (by omega)
    omega
/-- A number's text: its sign, the fraction's digits, the exponent. -/
def prN (neg : Bool) (ds : List UInt8) (t : Int) : List UInt8 :=
  (if neg then [45] else []) ++ [48, 120, 49] ++ (if ds = [] then [] else 46 :: ds) ++ [112] ++ [if t < 0 then 45 else 43] ++ Lib.itoa (if t < 0 then -t else t)
end Go.Proofs.YtooehlneoboenaaGreatDoor
