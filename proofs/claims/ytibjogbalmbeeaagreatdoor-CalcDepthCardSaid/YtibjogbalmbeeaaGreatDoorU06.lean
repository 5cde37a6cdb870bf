/- Plain: the pattern to which a * 2^x rounds. · Words on texts: the byte at a place, how far a set of bytes goes, signs. · Words on texts: lists of bytes as texts, the table of powers of ten, Itoa. · What the condition on the laid tables gives a walk. · Plain facts on how calc cuts a line into pieces. No program in sight. · Walks of calc: letter, digit, the sets of bytes; over, at each of them. -/
import Derived.Test.YtibjogbalmbeeaaGreatDoorU05
import Derived.Lib.IndexAny
import Derived.Lib.ItoaMem
import Derived.Test.YtibjogbalmbeeaaGreatDoorRows
import Derived.ProofKit
import Derived.LaidLaws
import Derived.LaidHandle
import Derived.MakeChecks
import Derived.LaidMore
import Derived.Lay
import Derived.OpenShut
import Derived.Stop.Joined
import Derived.BigQuiet
import Derived.Deep.QuietTactic

namespace Go.Proofs.YtibjogbalmbeeaaGreatDoor
open Go.RowKit

/-- The pattern to which a * 2^x rounds, however great or small. -/
def hxPat (f : Fm) (a : Nat) (x : Int) : Nat :=
  if a = 0 ∨ blen a + x < -2000 then 0 else if 2000 < blen a + x then near f false 1 2000 else near f false (a / 2 ^ tz a) (x + tz a)
theorem odd_part {a : Nat} (h : a ≠ 0) : (a / 2 ^ tz a) % 2 = 1 ∧ blen (a / 2 ^ tz a) ≤ blen a ∧ a / 2 ^ tz a ≠ 0 := by
  obtain ⟨m, hm⟩ := tz_spec h
  have e : a / 2 ^ tz a = 2 * m + 1 := by
    conv => lhs; arg 1; rw [hm]
    exact Nat.mul_div_cancel_left _ (Nat.two_pow_pos _)
  exact ⟨by rw [e]; omega, blen_mono (Nat.div_le_self _ _), by rw [e]; omega⟩
end Go.Proofs.YtibjogbalmbeeaaGreatDoor

namespace Go.Proofs.YtibjogbalmbeeaaGreatDoor
open Go.RowKit
/-- The byte at i. -/
def by8 (s : ByteArray) (i : Nat) : UInt8 := s.data.toList.getD i 0
theorem run_byte (s : ByteArray) (i : Nat) (h : i < s.size) (_hs : s.size ≤ 9223372036854775807) (w : World) : (Instr.index 9 (.string s) (.int .i64 (i : Int))).run Tryz.prog w = .ok (.int .u8 ((by8 s i).toNat : Int)) w := by
  have e : by8 s i = s[i] := by
    unfold by8
    rw [List.getD_eq_getElem?_getD, List.getElem?_eq_getElem (by rw [Array.length_toList]; exact h)]
    rfl
  rw [e]
  have h2 : (i : Int) < (s.size : Int) := by omega
  simp [go_sem, h2]

/-- What sign answers, and where it stands behind it. -/
def sgB (s : ByteArray) (i : Nat) : Bool := decide (i < s.size) && by8 s i == 45
def sgI (s : ByteArray) (i : Nat) : Nat := if i < s.size ∧ (by8 s i = 45 ∨ by8 s i = 43) then i + 1 else i
theorem sgI_le (s : ByteArray) (i : Nat) (h : i ≤ s.size) : sgI s i ≤ s.size := by unfold sgI; split <;> omega
/-- From i on as far as p holds. -/
def runTo (p : UInt8 → Bool) (s : ByteArray) : Nat → Nat → Nat
  | 0, i => i
  | f + 1, i => if i < s.size ∧ p (by8 s i) = true then runTo p s f (i + 1) else i
theorem runTo_ge (p : UInt8 → Bool) (s : ByteArray) (f i : Nat) : i ≤ runTo p s f i := by
  induction f generalizing i with
  | zero => exact Nat.le_refl _
  | succ f ih => unfold runTo; split; exact Nat.le_trans (Nat.le_succ i) (ih _); exact Nat.le_refl _
theorem runTo_le (p : UInt8 → Bool) (s : ByteArray) (f i : Nat) (h : i ≤ s.size) : runTo p s f i ≤ s.size := by
  induction f generalizing i with
  | zero => exact h
  | succ f ih =>
    unfold runTo
    split
    · rename_i h2; exact ih _ h2.1
    · exact h
theorem runTo_of (p : UInt8 → Bool) (s : ByteArray) (f i k : Nat) (hik : i ≤ k) (hf : s.size ≤ i + f) (hk : k ≤ s.size) (hall : ∀ j, i ≤ j → j < k → p (by8 s j) = true) (hend : ¬ (k < s.size ∧ p (by8 s k) = true)) : runTo p s f i = k := by
  induction f generalizing i with
  | zero => unfold runTo; omega
  | succ f ih =>
    unfold runTo
    by_cases h : i = k
    · subst h; rw [if_neg hend]
    · rw [if_pos ⟨by omega, hall i (Nat.le_refl _) (by omega)⟩]
      exact ih (i + 1) (by omega) (by omega) fun j h1 h2 => hall j (by omega) h2
def hexSet : ByteArray := ⟨#[48, 49, 50, 51, 52, 53, 54, 55, 56, 57, 97, 98, 99, 100, 101, 102, 65, 66, 67, 68, 69, 70]⟩
def decSet : ByteArray := ⟨#[48, 49, 50, 51, 52, 53, 54, 55, 56, 57]⟩
def isHex (c : UInt8) : Bool := hexSet.data.toList.contains c
def isDec (c : UInt8) : Bool := decSet.data.toList.contains c
/-- Where the hexadecimal digits end that begin at i. -/
def hxE (s : ByteArray) (i : Nat) : Nat := runTo isHex s s.size i
/-- Where the reader stands, by the world. -/
def idxOf (b : Nat) (w : World) : Nat := match w.cell? ⟨b, 1, none⟩ with | some (.int _ n) => n.toNat | _ => 0
theorem idxOf_box {w : World} {b : Nat} {v : Value} {i : Nat} (h : Box2 w b v (.int .i64 (i : Int))) : idxOf b w = i := by
  unfold idxOf; rw [h.2.1]; simp

def far : Nat := 1099511627776
/-- The number of m decimal digits from i on, far at most. -/
def dv (s : ByteArray) (i : Nat) : Nat → Nat
  | 0 => 0
  | m + 1 => min (10 * dv s i m + ((by8 s (i + m)).toNat - 48)) far
/-- Where the decimal digits end that begin at i. -/
def dcE (s : ByteArray) (i : Nat) : Nat := runTo isDec s s.size i
theorem isDec_range (c : UInt8) (h : isDec c = true) : 48 ≤ c.toNat ∧ c.toNat ≤ 57 := by
  unfold isDec decSet at h
  simp only [List.contains_eq_mem, List.mem_cons, List.not_mem_nil, or_false, decide_eq_true_eq] at h
  rcases h with h | h | h | h | h | h | h | h | h | h <;> subst h <;> decide
theorem by8_extract (s : ByteArray) (a b j : Nat) (_hb : b ≤ s.size) (hj : j < b - a) : by8 (s.extract a b) j = by8 s (a + j) := by
  unfold by8
  rw [Lib.extract_data]
  simp only [List.getD_eq_getElem?_getD, List.getElem?_take, List.getElem?_drop, hj, if_true]
theorem runTo_all (p : UInt8 → Bool) (s : ByteArray) (f i j : Nat) (h1 : i ≤ j) (h2 : j < runTo p s f i) : p (by8 s j) = true := by
  induction f generalizing i with
  | zero => unfold runTo at h2; omega
  | succ f ih =>
    unfold runTo at h2
    split at h2
    · rename_i h
      by_cases e : i = j
      · rw [← e]; exact h.2
      · exact ih (i + 1) (by omega) h2
    · omega
theorem size_ext (s : ByteArray) (a b : Nat) (hb : b ≤ s.size) : (s.extract a b).size = b - a := by
  rw [ByteArray.size_extract, Nat.min_eq_left hb]
theorem empty_iff (x : ByteArray) : x.toList.isEmpty = decide (x.size = 0) := by
  rw [Lib.toList_data]
  have e : x.size = x.data.toList.length := by rw [Array.length_toList]; rfl
  rw [e]
  cases x.data.toList <;> simp
end Go.Proofs.YtibjogbalmbeeaaGreatDoor

namespace Go.Proofs.YtibjogbalmbeeaaGreatDoor
open Go.RowKit Go.Sort
/-- The library's table of powers of ten stands in its variable. -/
def Tab10 (w : World) : Prop := Lib.TabIs Tryz.prog w "internal/strconv.uint64pow10" .u64 Lib.pow10Tab
theorem Tab10.lt {w : World} (h : Tab10 w) : 0 < w.heap.size := by
  unfold Tab10 Lib.TabIs World.var? at h
  have hg : Tryz.prog.globalNamed "internal/strconv.uint64pow10" = some 0 := by kernel_rfl
  rw [hg] at h
  simp only [Option.bind_some] at h
  rcases Nat.lt_or_ge 0 w.heap.size with h' | h'
  · exact h'
  · rw [Array.getElem?_eq_none h'] at h; simp at h
theorem Tab10.low {B : Nat} {w w1 : World} (h : Tab10 w) (hb : Below B w w1) (hB : 0 < B) : Tab10 w1 := by
  unfold Tab10 Lib.TabIs World.var? at *
  have hg : Tryz.prog.globalNamed "internal/strconv.uint64pow10" = some 0 := by kernel_rfl
  rw [hg] at h ⊢
  simp only [Option.bind_some] at h ⊢
  rw [hb.block _ hB]
  exact h
theorem Tab10.below {w w1 : World} (h : Tab10 w) (hb : Below w.heap.size w w1) : Tab10 w1 := h.low hb h.lt
theorem below_grow {B : Nat} {w W : World} (h : Below B w W) (hB : B ≤ W.heap.size) (os : Array Obj) : Below B w (grow W os) := by
  refine ⟨h.os, h.tape, h.output, ?_, fun i hi => ?_⟩
  · have := h.size; simp [grow]; omega
  · rw [← h.block i hi]
    simp only [grow]
    rw [Array.getElem?_append_left (by omega)]
theorem bs_app (a b : List UInt8) : (⟨a.toArray⟩ : ByteArray) ++ ⟨b.toArray⟩ = ⟨(a ++ b).toArray⟩ := by
  apply ByteArray.ext
  simp
theorem nd_le : ∀ (k u : Nat), u < 10 ^ (k + 1) → Lib.nDigits u ≤ k + 1
  | 0, u, h => by rw [Lib.nDigits_small (by omega)]; omega
  | k + 1, u, h => by
    by_cases h1 : u < 10
    · rw [Lib.nDigits_small h1]; omega
    · rw [Lib.nDigits_big h1]
      have := nd_le k (u / 10) (by rw [Nat.pow_succ] at h; omega)
      omega
theorem itoa_len (y : Int) (h0 : -10000000 ≤ y) (h1 : y ≤ 10000000) : (Lib.itoa y).length ≤ 20 := by
  by_cases h : y < 0
  · obtain ⟨u, rfl⟩ : ∃ u : Nat, y = -(u : Int) := ⟨y.natAbs, by omega⟩
    rw [Lib.itoa_neg u (by omega), List.length_cons, Lib.decDigits_length]
    have := nd_le 8 u (by omega)
    omega
  · obtain ⟨u, rfl⟩ : ∃ u : Nat, y = (u : Int) := ⟨y.toNat, by omega⟩
    rw [Lib.itoa_nonneg, Lib.decDigits_length]
    have := nd_le 8 u (by omega)
    omega
/-- The bytes of a list. -/
def bs (l : List UInt8) : ByteArray := ⟨l.toArray⟩
theorem bs_size (l : List UInt8) : (bs l).size = l.length := by show l.toArray.size = _; simp
theorem bs_by8 (l : List UInt8) (j : Nat) : by8 (bs l) j = l.getD j 0 := rfl
theorem bs_append (a b : List UInt8) : bs a ++ bs b = bs (a ++ b) := bs_app a b
theorem itoa_walk (y : Int) (h0 : -10000000 ≤ y) (h1 : y ≤ 10000000) (w : World) (h10 : Tab10 w) :
    Calls Tryz.prog 23 #[.int .i64 y] w fun e w' => e = .returned (.string (bs (Lib.itoa y))) ∧ Below w.heap.size w w' := by
  refine (Tryz.strconv_Itoa _ (by omega) (by omega) _ h10).mono ?_
  rintro e w4 ⟨rfl, k4, os, rfl⟩
  exact ⟨rfl, below_grow (below_dn (Below.refl _ _) k4) (by simp) os⟩
theorem bs_ext (l : List UInt8) (a b : Nat) : (bs l).extract a b = bs ((l.drop a).take (b - a)) := by
  apply ByteArray.ext
  apply Array.ext'
  rw [Lib.extract_data]
  rfl
end Go.Proofs.YtibjogbalmbeeaaGreatDoor

namespace Go.Proofs.YtibjogbalmbeeaaGreatDoor
open Go.ChangeShapes Go.WideShapes Go.ChangeAt Go.RowKit

theorem own_knob : ownKnob Tryz.prog.godebug = none := by kernel_rfl
abbrev laid3 : List (String × DataW Unit) := [("math/bits.deBruijn32tab", Rows.laid_math_bits_deBruijn32tab), ("math/bits.deBruijn64tab", Rows.laid_math_bits_deBruijn64tab), ("internal/strconv.uint64pow10", Rows.laid_internal_strconv_uint64pow10), ("unicode/utf8.acceptRanges", Rows.laid_unicode_utf8_acceptRanges), ("unicode/utf8.first", Rows.laid_unicode_utf8_first)]
theorem tabs_of_laid {W : World} (h : laidMetH Tryz.prog laid3 W) : Tab64 W ∧ Tab10 W := by
  rw [MakeChecks.laidMetH_plain _ _ _ (by kernel_rfl)] at h
  obtain ⟨ps, ⟨g0, t0, cs0, f0, p0, q0, hg0, ht0, hv0, hd0, ⟨g1, t1, cs1, f1, p1, q1, hg1, ht1, hv1, hd1, ⟨g2, t2, cs2, f2, p2, q2, hg2, ht2, hv2, hd2, _, _⟩, _⟩, _⟩, _, _⟩ := h
  obtain rfl := Option.some.inj ((show Tryz.prog.globalNamed "math/bits.deBruijn64tab" = some 5 by kernel_rfl).symm.trans hg1)
  obtain rfl := Option.some.inj ((show Tryz.prog.globalNamed "internal/strconv.uint64pow10" = some 0 by kernel_rfl).symm.trans hg2)
  obtain rfl := Option.some.inj ((show (Tryz.prog.globals[(5 : Nat)]?).map (·.type) = some 229 by kernel_rfl).symm.trans ht1)
  obtain rfl := Option.some.inj ((show (Tryz.prog.globals[(0 : Nat)]?).map (·.type) = some 193 by kernel_rfl).symm.trans ht2)
  have e1 := Lib.cells_of_tab (zs := (Lib.deBruijn64tab.map (fun n : Nat => Int.ofNat n) : List Int)) (k := .u8) Tryz.underlying229 Tryz.underlying5 (by kernel_rfl) (by kernel_rfl) hd1
  have e2 := Lib.cells_of_tab (zs := Lib.pow10Tab) (k := .u64) Tryz.underlying193 Tryz.underlying23 (by kernel_rfl) (by kernel_rfl) hd2
  refine ⟨fun j hj => ?_, ?_⟩
  · have := World.var?_cell hg1 hv1 j
    rw [this, ← Array.getElem?_toList, e1]
    simp only [List.getElem?_map, List.getElem?_eq_getElem hj, Option.map_some, List.getD_eq_getElem?_getD, Option.getD_some]
    rfl
  · unfold Tab10 Lib.TabIs
    rw [hv2, ← e2]
end Go.Proofs.YtibjogbalmbeeaaGreatDoor

namespace Go.Proofs.YtibjogbalmbeeaaGreatDoor

/-- The place behind all bytes from i on for which p holds. -/
def ovr (p : UInt8 → Bool) (s : ByteArray) (i : Nat) : Nat := if _h : i < s.size then (if p (by8 s i) then ovr p s (i + 1) else i) else i
termination_by s.size - i
theorem ovr_stop {p : UInt8 → Bool} {s : ByteArray} {i : Nat} (h : i < s.size → p (by8 s i) = false) : ovr p s i = i := by
  rw [ovr]
  by_cases hl : i < s.size
  · rw [dif_pos hl, h hl]; rfl
  · rw [dif_neg hl]
theorem ovr_next {p : UInt8 → Bool} {s : ByteArray} {i : Nat} (h : i < s.size) (hp : p (by8 s i) = true) : ovr p s i = ovr p s (i + 1) := by
  rw [ovr, dif_pos h, hp]; rfl
theorem ovr_eq {p : UInt8 → Bool} {s : ByteArray} {k : Nat} (hk : k ≤ s.size) (hs : k < s.size → p (by8 s k) = false) : ∀ (n i : Nat), k - i = n → i ≤ k → (∀ j, i ≤ j → j < k → p (by8 s j) = true) → ovr p s i = k
  | 0, i, hn, hi, _ => by
    obtain rfl : i = k := by omega
    exact ovr_stop hs
  | n + 1, i, hn, hi, hp => by
    rw [ovr_next (by omega) (hp i (Nat.le_refl _) (by omega))]
    exact ovr_eq hk hs n (i + 1) (by omega) (by omega) (fun j h1 h2 => hp j (by omega) h2)
theorem ovr_ge (p : UInt8 → Bool) (s : ByteArray) : ∀ (n i : Nat), s.size - i = n → i ≤ s.size → i ≤ ovr p s i ∧ ovr p s i ≤ s.size
  | 0, i, hn, hi => by
    rw [ovr_stop (fun h => by omega)]; omega
  | n + 1, i, hn, hi => by
    by_cases hp : p (by8 s i) = true
    · rw [ovr_next (by omega) hp]
      have := ovr_ge p s n (i + 1) (by omega) (by omega)
      omega
    · rw [ovr_stop (fun _ => by simpa using hp)]; omega
theorem ovr_le (p : UInt8 → Bool) (s : ByteArray) {i : Nat} (h : i ≤ s.size) : i ≤ ovr p s i ∧ ovr p s i ≤ s.size := ovr_ge p s _ i rfl h

def pLet (c : UInt8) : Bool := decide (97 ≤ c.toNat) && decide (c.toNat ≤ 122)
def pDig (c : UInt8) : Bool := decide (48 ≤ c.toNat) && decide (c.toNat ≤ 57)
def pBln (c : UInt8) : Bool := c == 32 || c == 9
def pWrd (c : UInt8) : Bool := pLet c || pDig c
def pNum (c : UInt8) : Bool := pDig c || c == 46
def pHex (c : UInt8) : Bool := pDig c || (decide (97 ≤ c.toNat) && decide (c.toNat ≤ 102)) || c == 46
def pMrk (c : UInt8) : Bool := c == 43 || c == 45 || c == 42 || c == 47 || c == 40 || c == 41 || c == 44 || c == 61
/-- The place behind an exponent that begins with c, if one stands at i. -/
def pwr (s : ByteArray) (i : Nat) (c : UInt8) : Nat :=
  if i < s.size ∧ by8 s i = c then ovr pDig s (if i + 1 < s.size ∧ (by8 s (i + 1) = 43 ∨ by8 s (i + 1) = 45) then i + 2 else i + 1) else i
/-- The place behind the number that begins at i. -/
def numE (s : ByteArray) (i : Nat) : Nat :=
  if i + 1 < s.size ∧ by8 s i = 48 ∧ by8 s (i + 1) = 120 then pwr s (ovr pHex s (i + 2)) 112 else pwr s (ovr pNum s i) 101
/-- What stands at i, a byte (no blank): its kind, and the place behind it. -/
def cutK (s : ByteArray) (i : Nat) : Nat × Nat :=
  if s.size ≤ i then (0, i) else
  if pLet (by8 s i) then (1, ovr pWrd s i) else
  if pDig (by8 s i) || by8 s i == 46 then (2, numE s i) else
  if pMrk (by8 s i) then (3, i + 1) else (4, i + 1)
theorem pwr_le {s : ByteArray} {i : Nat} {c : UInt8} (h : i ≤ s.size) : i ≤ pwr s i c ∧ pwr s i c ≤ s.size := by
  unfold pwr
  split
  · rename_i h1
    split
    · rename_i h2
      have := ovr_le pDig s (i := i + 2) (by omega)
      omega
    · have := ovr_le pDig s (i := i + 1) (by omega)
      omega
  · omega
theorem numE_le {s : ByteArray} {i : Nat} (h : i ≤ s.size) : i ≤ numE s i ∧ numE s i ≤ s.size := by
  unfold numE
  split
  · rename_i h1
    have h2 := ovr_le pHex s (i := i + 2) (by omega)
    have := pwr_le (c := 112) h2.2
    omega
  · have h2 := ovr_le pNum s h
    have := pwr_le (c := 101) h2.2
    omega
theorem cutK_le {s : ByteArray} {i : Nat} (h : i ≤ s.size) : i ≤ (cutK s i).2 ∧ (cutK s i).2 ≤ s.size := by
  unfold cutK
  split
  · exact ⟨Nat.le_refl _, h⟩
  · split
    · exact ovr_le pWrd s h
    · split
      · exact numE_le h
      · split <;> exact ⟨Nat.le_succ _, by omega⟩
end Go.Proofs.YtibjogbalmbeeaaGreatDoor

namespace Go.Proofs.YtibjogbalmbeeaaGreatDoor
open Go.RowKit

set_option maxRecDepth 100000 in
theorem letter_walk (c : UInt8) (w : World) : Calls Tryz.prog 96 #[.int .u8 (c.toNat : Int)] w fun e w' => e = .returned (.bool (pLet c)) ∧ w' = w := by
  unfold pLet
  generalize c.toNat = n
  by_cases h1 : 97 ≤ n
  · have g1 : (97 : Int) ≤ (n : Int) := by omega
    by_cases h2 : n ≤ 122
    · have g2 : (n : Int) ≤ 122 := by omega
      rw [decide_eq_true h1, decide_eq_true h2]
      clear h1 h2
      go_enter Tryz.func96, Tryz.ntmps96
      go_wp2
      go_ret
      exact ⟨rfl, rfl⟩
    · have g2 : ¬ (n : Int) ≤ 122 := by omega
      rw [decide_eq_true h1, decide_eq_false h2]
      clear h1 h2
      go_enter Tryz.func96, Tryz.ntmps96
      go_wp2
      go_ret
      exact ⟨rfl, rfl⟩
  · have g1 : ¬ (97 : Int) ≤ (n : Int) := by omega
    rw [decide_eq_false h1]
    clear h1
    go_enter Tryz.func96, Tryz.ntmps96
    go_wp2
    go_ret
    exact ⟨by simp, rfl⟩
set_option maxRecDepth 100000 in
theorem cdigit_walk (c : UInt8) (w : World) : Calls Tryz.prog 98 #[.int .u8 (c.toNat : Int)] w fun e w' => e = .returned (.bool (pDig c)) ∧ w' = w := by
  unfold pDig
  generalize c.toNat = n
  by_cases h1 : 48 ≤ n
  · have g1 : (48 : Int) ≤ (n : Int) := by omega
    by_cases h2 : n ≤ 57
    · have g2 : (n : Int) ≤ 57 := by omega
      rw [decide_eq_true h1, decide_eq_true h2]
      clear h1 h2
      go_enter Tryz.func98, Tryz.ntmps98
      go_wp2
      go_ret
      exact ⟨rfl, rfl⟩
    · have g2 : ¬ (n : Int) ≤ 57 := by omega
      rw [decide_eq_true h1, decide_eq_false h2]
      clear h1 h2
      go_enter Tryz.func98, Tryz.ntmps98
      go_wp2
      go_ret
      exact ⟨rfl, rfl⟩
  · have g1 : ¬ (48 : Int) ≤ (n : Int) := by omega
    rw [decide_eq_false h1]
    clear h1
    go_enter Tryz.func98, Tryz.ntmps98
    go_wp2
    go_ret
    exact ⟨by simp, rfl⟩
theorem u8_beq (c k : UInt8) : (((c.toNat : Nat) : Int) == ((k.toNat : Nat) : Int)) = (c == k) := by
  by_cases h : c = k
  · subst h; simp
  · rw [beq_eq_false_iff_ne.2 h, beq_eq_false_iff_ne]
    intro e
    exact h (UInt8.toNat_inj.1 (by omega))
set_option maxRecDepth 100000 in
theorem set_blank (c : UInt8) (w : World) : Calls Tryz.prog 95 #[.int .u8 (c.toNat : Int)] w fun e w' => e = .returned (.bool (pBln c)) ∧ w' = w := by
  have e1 : (((c.toNat : Nat) : Int) == 32) = (c == 32) := u8_beq c 32
  have e2 : (((c.toNat : Nat) : Int) == 9) = (c == 9) := u8_beq c 9
  unfold pBln
  obtain ⟨a, ha⟩ : ∃ a, (c == 32) = a := ⟨_, rfl⟩
  obtain ⟨b, hb⟩ : ∃ b, (c == 9) = b := ⟨_, rfl⟩
  rw [ha] at e1 ⊢
  rw [hb] at e2 ⊢
  clear ha hb
  generalize c.toNat = n at *
  cases a
  all_goals
    go_enter Tryz.func95, Tryz.ntmps95
    go_wp2
    go_ret
    exact ⟨by simp, rfl⟩
set_option maxRecDepth 100000 in
theorem set_word (c : UInt8) (w : World) : Calls Tryz.prog 97 #[.int .u8 (c.toNat : Int)] w fun e w' => e = .returned (.bool (pWrd c)) ∧ w' = w := by
  have HL := Lib.hid (fun W => letter_walk c W)
  have HD := Lib.hid (fun W => cdigit_walk c W)
  unfold pWrd
  obtain ⟨a, ha⟩ : ∃ a, pLet c = a := ⟨_, rfl⟩
  obtain ⟨b, hb⟩ : ∃ b, pDig c = b := ⟨_, rfl⟩
  rw [ha] at HL ⊢
  rw [hb] at HD ⊢
  clear ha hb
  generalize c.toNat = n at *
  cases a
  · go_enter Tryz.func97, Tryz.ntmps97
    go_wp2_with fail
    refine (HL.out _).mono ?_
    rintro e w' ⟨rfl, hw⟩
    (have h := hw.symm); subst h
    clear hw
    go_wp2_with fail
    refine (HD.out _).mono ?_
    rintro e w' ⟨rfl, hw⟩
    (have h := hw.symm); subst h
    clear hw
    go_wp2_with fail
    go_ret
    exact ⟨by simp, rfl⟩
  · go_enter Tryz.func97, Tryz.ntmps97
    go_wp2_with fail
    refine (HL.out _).mono ?_
    rintro e w' ⟨rfl, hw⟩
    (have h := hw.symm); subst h
    clear hw
    go_wp2_with fail
    go_ret
    exact ⟨by simp, rfl⟩

set_option maxRecDepth 100000 in
/-- over, at any set of bytes that a function tells. -/
theorem over_walk (p : UInt8 → Bool) (K : FuncId) (hK : ∀ (c : UInt8) (w : World), Calls Tryz.prog K #[.int .u8 (c.toNat : Int)] w fun e w' => e = .returned (.bool (p c)) ∧ w' = w) (hE : ∀ (x : Value) (w : World), (callFunc K #[x]).run Tryz.prog w = .ok (.enter K #[x]) w)
    (s : ByteArray) (i : Nat) (hi : i ≤ s.size) (hs : s.size ≤ 100000) (w : World) :
    Calls Tryz.prog 94 #[.string s, .int .i64 (i : Int), .func (.func K) #[] #[]] w fun e w' => e = .returned (.int .i64 ((ovr p s i : Nat) : Int)) ∧ w' = w := by
  have HK := Lib.hid hK
  have HS := Lib.hid (And.intro hi hs)
  clear hK hi hs
  go_enter Tryz.func94, Tryz.ntmps94
  go_wp2_with fail
  go_loop [1] (fun iv => ∃ j : Nat, iv = .int .i64 (j : Int) ∧ j ≤ s.size ∧ Hid (ovr p s i = ovr p s j)) (fun iv => s.size - (intOf iv).toNat)
  case atStart => exact ⟨i, rfl, HS.out.1, Lib.hid rfl⟩
  case round =>
    obtain ⟨j, rfl, hj, HO⟩ := hrel
    by_cases hlt : j < s.size
    · have hix := fun w1 => run_byte s j hlt (by have := HS.out.2; omega) w1
      have hli : (j : Int) < (s.size : Int) := by omega
      have HKc := Lib.hid (fun W => HK.out (by8 s j) W)
      have HL := Lib.hid hlt
      cases hp : p (by8 s j)
      · have HE := Lib.hid (show ovr p s j = j from ovr_stop (fun _ => hp))
        rw [hp] at HKc
        generalize (by8 s j).toNat = n at *
        clear hp hlt hj
        go_wp2_with fail
        refine (HKc.out _).mono ?_
        rintro e w' ⟨rfl, hw⟩
        (have h := hw.symm); subst h
        clear hw
        go_wp2_with fail
        go_ret
        exact ⟨by rw [HO.out, HE.out]; rfl, rfl⟩
      · have HE := Lib.hid (show ovr p s i = ovr p s (j + 1) by rw [HO.out]; exact ovr_next hlt hp)
        rw [hp] at HKc
        have kw : IntKind.i64.wrap ((j : Int) + 1) = ((j + 1 : Nat) : Int) := by have := HS.out.2; rw [IntKind.wrap_i64]; omega
        generalize (by8 s j).toNat = n at *
        clear hp hlt hj
        go_wp2_with fail
        refine (HKc.out _).mono ?_
        rintro e w' ⟨rfl, hw⟩
        (have h := hw.symm); subst h
        clear hw
        go_wp2_with fail
        go_round
        case rel => exact ⟨j + 1, by simp, HL.out, HE⟩
        case measure => have := HL.out; simp [intOf]; omega
    · have hje : j = s.size := by omega
      have HE := Lib.hid (show ovr p s j = j from ovr_stop (fun h => by omega))
      have hli : ¬ (j : Int) < (s.size : Int) := by omega
      clear hlt hj hje
      go_wp2_with fail
      go_ret
      exact ⟨by rw [HO.out, HE.out]; rfl, rfl⟩
theorem ent_blank (x : Value) (w : World) : (callFunc 95 #[x]).run Tryz.prog w = .ok (.enter 95 #[x]) w := by kernel_rfl
theorem ent_word (x : Value) (w : World) : (callFunc 97 #[x]).run Tryz.prog w = .ok (.enter 97 #[x]) w := by kernel_rfl
theorem ent_hex (x : Value) (w : World) : (callFunc 138 #[x]).run Tryz.prog w = .ok (.enter 138 #[x]) w := by kernel_rfl
theorem ent_num (x : Value) (w : World) : (callFunc 140 #[x]).run Tryz.prog w = .ok (.enter 140 #[x]) w := by kernel_rfl
theorem ent_dig (x : Value) (w : World) : (callFunc 98 #[x]).run Tryz.prog w = .ok (.enter 98 #[x]) w := by kernel_rfl
end Go.Proofs.YtibjogbalmbeeaaGreatDoor
