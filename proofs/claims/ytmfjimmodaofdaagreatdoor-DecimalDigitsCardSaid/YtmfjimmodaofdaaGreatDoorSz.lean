/- Plain: the pattern to which a * 2^x rounds. · Words on texts: the byte at a place, how far a set of bytes goes, signs. · Words on texts: lists of bytes as texts, the table of powers of ten, Itoa. -/
import Derived.Test.YtmfjimmodaofdaaGreatDoorRd
import Derived.Lib.IndexAny
import Derived.Lib.ItoaMem
namespace Go.Proofs.YtmfjimmodaofdaaGreatDoor
open Go.RowKit

/-- The pattern to which a * 2^x rounds, however great or small. -/
def hxPat (f : Fm) (a : Nat) (x : Int) : Nat :=
  if a = 0 ∨ blen a + x < -2000 then 0 else if 2000 < blen a + x then near f false 1 2000 else near f false (a / 2 ^ tz a) (x + tz a)
theorem odd_part {a : Nat} (h : a ≠ 0) : (a / 2 ^ tz a) % 2 = 1 ∧ blen (a / 2 ^ tz a) ≤ blen a ∧ a / 2 ^ tz a ≠ 0 := by
  obtain ⟨m, hm⟩ := tz_spec h
  have e : a / 2 ^ tz a = 2 * m + 1 := by
    conv => lhs; arg 1; rw [hm]
    exact Nat.mul_div_cancel_left _ (Nat.two_pow_pos _)
  exact ⟨by rw [e]; omega, blen_mono (Nat.div_le_self _ _), by rw [e]; omega⟩
end Go.Proofs.YtmfjimmodaofdaaGreatDoor

namespace Go.Proofs.YtmfjimmodaofdaaGreatDoor
open Go.RowKit
/-- The byte at i. -/
def by8 (s : ByteArray) (i : Nat) : UInt8 := s.data.toList.getD i 0
theorem run_byte (s : ByteArray) (i : Nat) (h : i < s.size) (_hs : s.size ≤ 9223372036854775807) (w : World) : (Instr.index 9 (.string s) (.int .i64 (i : Int))).run Tryz.prog w = .ok (.int .u8 ((by8 s i).toNat : Int)) w := by
  have e : by8 s i = s[i] := by
    unfold by8
    rw [List.getD_eq_getElem?_getD, List.getElem?_eq_getElem (by rw [Array.length_toList]; exact h)]
    rfl
  rw [e]
  have h2 : (i : Int) < (s.size : Int) := by omega
  simp [go_sem, h2]

/-- What sign answers, and where it stands behind it. -/
def sgB (s : ByteArray) (i : Nat) : Bool := decide (i < s.size) && by8 s i == 45
def sgI (s : ByteArray) (i : Nat) : Nat := if i < s.size ∧ (by8 s i = 45 ∨ by8 s i = 43) then i + 1 else i
theorem sgI_le (s : ByteArray) (i : Nat) (h : i ≤ s.size) : sgI s i ≤ s.size := by unfold sgI; split <;> omega
/-- From i on as far as p holds. -/
def runTo (p : UInt8 → Bool) (s : ByteArray) : Nat → Nat → Nat
  | 0, i => i
  | f + 1, i => if i < s.size ∧ p (by8 s i) = true then runTo p s f (i + 1) else i
theorem runTo_ge (p : UInt8 → Bool) (s : ByteArray) (f i : Nat) : i ≤ runTo p s f i := by
  induction f generalizing i with
  | zero => exact Nat.le_refl _
  | succ f ih => unfold runTo; split; exact Nat.le_trans (Nat.le_succ i) (ih _); exact Nat.le_refl _
theorem runTo_le (p : UInt8 → Bool) (s : ByteArray) (f i : Nat) (h : i ≤ s.size) : runTo p s f i ≤ s.size := by
  induction f generalizing i with
  | zero => exact h
  | succ f ih =>
    unfold runTo
    split
    · rename_i h2; exact ih _ h2.1
    · exact h
theorem runTo_of (p : UInt8 → Bool) (s : ByteArray) (f i k : Nat) (hik : i ≤ k) (hf : s.size ≤ i + f) (hk : k ≤ s.size) (hall : ∀ j, i ≤ j → j < k → p (by8 s j) = true) (hend : ¬ (k < s.size ∧ p (by8 s k) = true)) : runTo p s f i = k := by
  induction f generalizing i with
  | zero => unfold runTo; omega
  | succ f ih =>
    unfold runTo
    by_cases h : i = k
    · subst h; rw [if_neg hend]
    · rw [if_pos ⟨by omega, hall i (Nat.le_refl _) (by omega)⟩]
      exact ih (i + 1) (by omega) (by omega) fun j h1 h2 => hall j (by omega) h2
def decSet : ByteArray := ⟨#[48, 49, 50, 51, 52, 53, 54, 55, 56, 57]⟩
def isDec (c : UInt8) : Bool := decSet.data.toList.contains c
/-- Where the reader stands, by the world. -/
def idxOf (b : Nat) (w : World) : Nat := match w.cell? ⟨b, 1, none⟩ with | some (.int _ n) => n.toNat | _ => 0
theorem idxOf_box {w : World} {b : Nat} {v : Value} {i : Nat} (h : Box2 w b v (.int .i64 (i : Int))) : idxOf b w = i := by
  unfold idxOf; rw [h.2.1]; simp

def far : Nat := 1099511627776
/-- The number of m decimal digits from i on, far at most. -/
def dv (s : ByteArray) (i : Nat) : Nat → Nat
  | 0 => 0
  | m + 1 => min (10 * dv s i m + ((by8 s (i + m)).toNat - 48)) far
/-- Where the decimal digits end that begin at i. -/
def dcE (s : ByteArray) (i : Nat) : Nat := runTo isDec s s.size i
theorem isDec_range (c : UInt8) (h : isDec c = true) : 48 ≤ c.toNat ∧ c.toNat ≤ 57 := by
  unfold isDec decSet at h
  simp only [List.contains_eq_mem, List.mem_cons, List.not_mem_nil, or_false, decide_eq_true_eq] at h
  rcases h with h | h | h | h | h | h | h | h | h | h <;> subst h <;> decide
theorem by8_extract (s : ByteArray) (a b j : Nat) (_hb : b ≤ s.size) (hj : j < b - a) : by8 (s.extract a b) j = by8 s (a + j) := by
  unfold by8
  rw [Lib.extract_data]
  simp only [List.getD_eq_getElem?_getD, List.getElem?_take, List.getElem?_drop, hj, if_true]
theorem runTo_all (p : UInt8 → Bool) (s : ByteArray) (f i j : Nat) (h1 : i ≤ j) (h2 : j < runTo p s f i) : p (by8 s j) = true := by
  induction f generalizing i with
  | zero => unfold runTo at h2; omega
  | succ f ih =>
    unfold runTo at h2
    split at h2
    · rename_i h
      by_cases e : i = j
      · rw [← e]; exact h.2
      · exact ih (i + 1) (by omega) h2
    · omega
theorem size_ext (s : ByteArray) (a b : Nat) (hb : b ≤ s.size) : (s.extract a b).size = b - a := by
  rw [ByteArray.size_extract, Nat.min_eq_left hb]
theorem empty_iff (x : ByteArray) : x.toList.isEmpty = decide (x.size = 0) := by
  rw [Lib.toList_data]
  have e : x.size = x.data.toList.length := by rw [Array.length_toList]; rfl
  rw [e]
  cases x.data.toList <;> simp
end Go.Proofs.YtmfjimmodaofdaaGreatDoor

namespace Go.Proofs.YtmfjimmodaofdaaGreatDoor
open Go.RowKit Go.Sort
/-- The library's table of powers of ten stands in its variable. -/
def Tab10 (w : World) : Prop := Lib.TabIs Tryz.prog w "internal/strconv.uint64pow10" .u64 Lib.pow10Tab
theorem Tab10.lt {w : World} (h : Tab10 w) : 4 < w.heap.size := by
  unfold Tab10 Lib.TabIs World.var? at h
  have hg : Tryz.prog.globalNamed "internal/strconv.uint64pow10" = some 4 := by kernel_rfl
  rw [hg] at h
  simp only [Option.bind_some] at h
  rcases Nat.lt_or_ge 4 w.heap.size with h' | h'
  · exact h'
  · rw [Array.getElem?_eq_none h'] at h; simp at h
theorem Tab10.low {B : Nat} {w w1 : World} (h : Tab10 w) (hb : Below B w w1) (hB : 4 < B) : Tab10 w1 := by
  unfold Tab10 Lib.TabIs World.var? at *
  have hg : Tryz.prog.globalNamed "internal/strconv.uint64pow10" = some 4 := by kernel_rfl
  rw [hg] at h ⊢
  simp only [Option.bind_some] at h ⊢
  rw [hb.block _ hB]
  exact h
theorem Tab10.below {w w1 : World} (h : Tab10 w) (hb : Below w.heap.size w w1) : Tab10 w1 := h.low hb h.lt
theorem below_grow {B : Nat} {w W : World} (h : Below B w W) (hB : B ≤ W.heap.size) (os : Array Obj) : Below B w (grow W os) := by
  refine ⟨h.os, h.tape, h.output, ?_, fun i hi => ?_⟩
  · have := h.size; simp [grow]; omega
  · rw [← h.block i hi]
    simp only [grow]
    rw [Array.getElem?_append_left (by omega)]
theorem bs_app (a b : List UInt8) : (⟨a.toArray⟩ : ByteArray) ++ ⟨b.toArray⟩ = ⟨(a ++ b).toArray⟩ := by
  apply ByteArray.ext
  simp
theorem nd_le : ∀ (k u : Nat), u < 10 ^ (k + 1) → Lib.nDigits u ≤ k + 1
  | 0, u, h => by rw [Lib.nDigits_small (by omega)]; omega
  | k + 1, u, h => by
    by_cases h1 : u < 10
    · rw [Lib.nDigits_small h1]; omega
    · rw [Lib.nDigits_big h1]
      have := nd_le k (u / 10) (by rw [Nat.pow_succ] at h; omega)
      omega
theorem itoa_len (y : Int) (h0 : -10000000 ≤ y) (h1 : y ≤ 10000000) : (Lib.itoa y).length ≤ 20 := by
  by_cases h : y < 0
  · obtain ⟨u, rfl⟩ : ∃ u : Nat, y = -(u : Int) := ⟨y.natAbs, by omega⟩
    rw [Lib.itoa_neg u (by omega), List.length_cons, Lib.decDigits_length]
    have := nd_le 8 u (by omega)
    omega
  · obtain ⟨u, rfl⟩ : ∃ u : Nat, y = (u : Int) := ⟨y.toNat, by omega⟩
    rw [Lib.itoa_nonneg, Lib.decDigits_length]
    have := nd_le 8 u (by omega)
    omega
/-- The bytes of a list. -/
def bs (l : List UInt8) : ByteArray := ⟨l.toArray⟩
theorem bs_size (l : List UInt8) : (bs l).size = l.length := by show l.toArray.size = _; simp
theorem bs_list (l : List UInt8) : (bs l).toList = l := by rw [Lib.toList_data]; rfl
theorem bs_append (a b : List UInt8) : bs a ++ bs b = bs (a ++ b) := bs_app a b
theorem itoa_walk (y : Int) (h0 : -10000000 ≤ y) (h1 : y ≤ 10000000) (w : World) (h10 : Tab10 w) :
    Calls Tryz.prog 69 #[.int .i64 y] w fun e w' => e = .returned (.string (bs (Lib.itoa y))) ∧ Below w.heap.size w w' := by
  refine (Tryz.strconv_Itoa _ (by omega) (by omega) _ h10).mono ?_
  rintro e w4 ⟨rfl, k4, os, rfl⟩
  exact ⟨rfl, below_grow (below_dn (Below.refl _ _) k4) (by simp) os⟩
theorem bs_ext (l : List UInt8) (a b : Nat) : (bs l).extract a b = bs ((l.drop a).take (b - a)) := by
  apply ByteArray.ext
  apply Array.ext'
  rw [Lib.extract_data]
  rfl
theorem no_fmt {f : Int} (h1 : f ≠ 32) (h2 : f ≠ 64) : (f == 32) = false ∧ (f == 64) = false := ⟨by rw [beq_eq_false_iff_ne]; exact h1, by rw [beq_eq_false_iff_ne]; exact h2⟩
end Go.Proofs.YtmfjimmodaofdaaGreatDoor
