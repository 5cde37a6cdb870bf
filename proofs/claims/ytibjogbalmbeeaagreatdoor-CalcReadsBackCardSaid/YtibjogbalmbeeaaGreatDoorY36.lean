/- Walks of strconv: FormatUint at base 16. · Facts for Print: texts joined, hexadecimal digits of a fraction, the table of powers of ten. · The walk of hexfloat.Print (printed by gen_print.py). -/
import Derived.Test.YtibjogbalmbeeaaGreatDoorY02
import Derived.Lib.ItoaWalk
import Derived.Test.YtibjogbalmbeeaaGreatDoorY06
import Derived.Lib.ItoaMem
import Derived.Test.YtibjogbalmbeeaaGreatDoorY35

namespace Go.Proofs.YtibjogbalmbeeaaGreatDoor
open Go.RowKit

/-- A hexadecimal digit's letter. -/
def hxDig (d : Nat) : UInt8 := if d < 10 then UInt8.ofNat (48 + d) else UInt8.ofNat (87 + d)
/-- The hexadecimal numeral of u. -/
def hexL (u : Nat) : List UInt8 := if u < 16 then [hxDig u] else hexL (u / 16) ++ [hxDig (u % 16)]
termination_by u
decreasing_by omega
theorem hexL_small {u : Nat} (h : u < 16) : hexL u = [hxDig u] := by rw [hexL, if_pos h]
theorem hexL_big {u : Nat} (h : ¬ u < 16) : hexL u = hexL (u / 16) ++ [hxDig (u % 16)] := by rw [hexL, if_neg h]
/-- The end of the array of 65 bytes spells t. -/
def Row65 (W : World) (N : Nat) (t : List UInt8) : Prop :=
  (∀ j (_ : j < t.length), W.cell? ⟨N, 65 - t.length + j, none⟩ = some (.int .u8 ((t.getD j 0).toNat : Int))) ∧
  (∀ j, j < 65 → ∃ x, W.cell? ⟨N, j, none⟩ = some (.int .u8 x)) ∧ (∀ j, j < 65 → W.frozen? ⟨N, j, none⟩ = false)
theorem zeros65_at (j : Nat) (h : j < 65) : Tryz.zeroCells194[j]? = some (.int .u8 0) := by
  have e : Tryz.zeroCells194 = Array.replicate 65 (.int .u8 0) := by kernel_rfl
  rw [e]; simp [h]
theorem Row65.new (w : World) : Row65 (w.alloc (.cells Tryz.zeroCells194 194)) w.heap.size [] :=
  ⟨fun j h => absurd h (by simp), fun j h => ⟨0, by rw [World.cell?_alloc_new]; exact zeros65_at j h⟩, fun j _ => World.frozen?_alloc_new _ _ _ _⟩
theorem Row65.put {W : World} {N : Nat} {t : List UInt8} (h : Row65 W N t) {p : Nat} (hp : p + 1 + t.length = 65) (c : UInt8) : Row65 (W.setCell ⟨N, p, none⟩ (.int .u8 (c.toNat : Int))) N (c :: t) := by
  obtain ⟨h1, h2, h3⟩ := h
  have hs : ∀ j, j < 65 → (W.setCell ⟨N, p, none⟩ (.int .u8 (c.toNat : Int))).cell? ⟨N, j, none⟩ = if j = p then some (.int .u8 (c.toNat : Int)) else W.cell? ⟨N, j, none⟩ := fun j hj => by
    split
    · rename_i e; subst e
      obtain ⟨x, hx⟩ := h2 j hj
      exact World.cell?_setCell_same' _ _ _ (by rw [hx]; rfl)
    · rename_i hne
      exact cell_other (fun e => hne (by have := congrArg Addr.off e; exact this.symm))
  refine ⟨fun j hj => ?_, fun j hj => ?_, fun j hj => ?_⟩
  · simp only [List.length_cons] at hj ⊢
    rw [hs _ (by omega)]
    cases j with
    | zero => rw [if_pos (by omega)]; simp
    | succ j =>
      rw [if_neg (by omega), show 65 - (t.length + 1) + (j + 1) = 65 - t.length + j by omega, h1 j (by omega)]
      simp
  · rw [hs j hj]; split
    · exact ⟨_, rfl⟩
    · exact h2 j hj
  · have := h3 j hj
    simpa [World.frozen?_setCell] using this
theorem row_room {v u q : Nat} {t : List UInt8} (h : q = 0) (hq : q + t.length = 65) (hv : t = [] ∨ 0 < v) (hu : v * 16 ^ t.length ≤ u) (h64 : u < 18446744073709551616) : False := by
  have e : t.length = 65 := by omega
  rcases hv with rfl | hv
  · simp at e
  · rw [e] at hu
    have := Nat.le_trans (Nat.le_mul_of_pos_left (16 ^ 65) hv) hu
    omega
theorem digits_at : ∀ d : Fin 16, Lib.digits36.data.toList.getD d.val 0 = hxDig d.val := by decide +kernel
theorem idx_digits (k : IntKind) (d : Nat) (hd : d < 16) (w : World) : (Instr.index 9 (.string Lib.digits36) (.int k (d : Int))).run Tryz.prog w = .ok (.int .u8 ((hxDig d).toNat : Int)) w := by
  rw [run_index_string w _ Lib.digits36 k _ Tryz.underlying9, dif_pos ⟨by omega, by rw [Lib.digits36_size]; omega⟩]
  have e : ((d : Int)).toNat = d := by omega
  simp only [e]
  rw [Lib.getD_at Lib.digits36 d (by rw [Lib.digits36_size]; omega), digits_at ⟨d, hd⟩]

set_option maxRecDepth 100000 in
theorem pow2_walk (w : World) : Calls Tryz.prog 136 #[.int .i64 16] w fun e w' => e = .returned (.bool true) ∧ w' = w := by
  have hb : bits .and .i64 16 15 = 0 := by kernel_rfl
  go_enter Tryz.func136, Tryz.ntmps136
  go_wp2
  go_ret
  exact ⟨rfl, rfl⟩

set_option maxRecDepth 100000 in
theorem tz_walk (w : World) (ht : Tab64 w) : Calls Tryz.prog 137 #[.int .u64 16] w fun e w' => e = .returned (.int .i64 4) ∧ w' = w := by
  refine (Any7.bits_TrailingZeros Tryz.lays7_27 16 (by omega) w (fun _ => ht)).mono ?_
  rintro e w1 ⟨rfl, rfl⟩
  exact ⟨by rw [show Lib.ctz 64 16 = 4 by decide]; rfl, rfl⟩

set_option maxRecDepth 100000 in
theorem formatBits_walk (u : Nat) (hu : u < 18446744073709551616) (w : World) (ht : Tab64 w) :
    Calls Tryz.prog 92 #[.slice none 0 0, .int .u64 (u : Int), .int .i64 16, .bool false, .bool false] w fun e w' => e = .returned (.tuple #[.slice none 0 0, .string ⟨(hexL u).toArray⟩]) ∧ Below w.heap.size w w' := by
  have hRow := Row65.new w
  have hbw := below_alloc' w (.cells Tryz.zeroCells194 194)
  go_enter Tryz.func92, Tryz.ntmps92
  go_name_bytes_deep 45 PM hPM
  clear hPM
  go_name_bytes DG hDG
  have eDG : DG = Lib.digits36 := by rw [← hDG]; decide +kernel
  subst eDG
  clear hDG
  go_wp2_with fail
  generalize w.alloc (.cells Tryz.zeroCells194 194) = w1 at *
  refine (pow2_walk _).mono ?_
  rintro e w2 ⟨rfl, rfl⟩
  go_wp2_with fail
  refine (tz_walk _ (ht.below hbw)).mono ?_
  rintro e w3 ⟨rfl, rfl⟩
  have HR := Lib.hid hRow
  have HW := Lib.hid hbw
  clear hRow hbw ht
  go_wp2_with fail
  go_loopw [1, 13] (fun vv vq wr => ∃ (v q : Nat) (t : List UInt8), vv = .int .u64 (v : Int) ∧ vq = .int .i64 (q : Int) ∧ v < 18446744073709551616 ∧ q + t.length = 65 ∧ Hid (t = [] ∨ 0 < v) ∧ Hid (v * 16 ^ t.length ≤ u) ∧ Hid (hexL u = hexL v ++ t) ∧ Hid (Row65 wr w.heap.size t) ∧ Hid (Below w.heap.size w wr)) (fun vv _ _ => (intOf vv).toNat)
  case atStart => exact ⟨u, 65, [], rfl, rfl, hu, by simp, Lib.hid (.inl rfl), Lib.hid (by simp), Lib.hid (by simp), HR, HW⟩
  case round =>
    obtain ⟨v, q, t, rfl, rfl, hv, hq, HV, HU, HX, HR, HW⟩ := hrel
    obtain ⟨p, rfl⟩ : ∃ p, q = p + 1 := by
      refine ⟨q - 1, ?_⟩
      by_cases h : q = 0
      · exfalso
        exact row_room h hq HV.out HU.out hu
      · omega
    obtain ⟨x, hx⟩ := HR.out.2.1 p (by omega)
    have hf := HR.out.2.2 p (by omega)
    obtain ⟨d, hd⟩ : ∃ d, v % 16 = d := ⟨_, rfl⟩
    have hand : bits .and .u64 (v : Int) 15 = (d : Int) := by
      have h1 := bits_and_u64_nat v 15 hv (by omega)
      rw [show ((15 : Nat) : Int) = 15 from rfl] at h1
      rw [h1, show (15 : Nat) = 2 ^ 4 - 1 from rfl, Nat.and_two_pow_sub_one_eq_mod, show (2 : Nat) ^ 4 = 16 from rfl, hd]
    have hd16 : d < 16 := by omega
    have hix := fun w => idx_digits .u64 d hd16 w
    have HR2 := Lib.hid (HR.out.put (p := p) (by omega) (hxDig d))
    have HW2 := Lib.hid (HW.out.setCell (p := ⟨w.heap.size, p, none⟩) (Nat.le_refl _) (.int .u8 ((hxDig d).toNat : Int)))
    by_cases h16 : 16 ≤ v
    · have HX2 := Lib.hid (show hexL v = hexL (v / 16) ++ [hxDig d] by rw [hexL_big (by omega), hd])
      clear hd
      go_wp2_with fail
      go_roundw
      case rel =>
        refine ⟨v / 16, p, hxDig d :: t, by first | go_num | (congr 1; omega), rfl, by omega, by simp; omega, Lib.hid (.inr (by omega)), Lib.hid ?_, Lib.hid ?_, HR2, HW2⟩
        · rw [List.length_cons, Nat.pow_succ, Nat.mul_comm (16 ^ t.length), ← Nat.mul_assoc]
          exact Nat.le_trans (Nat.mul_le_mul_right _ (by omega)) HU.out
        · rw [HX.out, HX2.out, List.append_assoc]; rfl
      case measure => simp [intOf]; omega
    · have hdv : d = v := by omega
      subst hdv
      have HX2 := Lib.hid (show hexL u = hxDig d :: t by rw [HX.out, hexL_small hd16]; rfl)
      have hsl : ∀ W, (Instr.sliceAt 194 (.pointer (some ⟨w.heap.size, 0, none⟩)) (some (.int .i64 (p : Int))) none none).run Tryz.prog W = .ok (.slice (some ⟨w.heap.size, p, none⟩) (hxDig d :: t).length (65 - p)) W := fun W => by
        have hal : Tryz.prog.arrayLen 194 = 65 := by kernel_rfl
        have hel : Tryz.prog.elem 194 = 5 := by kernel_rfl
        rw [run_sliceAt_array_l W 194 ⟨w.heap.size, 0, none⟩ (by rw [hal, hel]; exact Tryz.underlying194) .i64 (p : Int) (by omega) (by rw [hal]; omega), hal, hel, Tryz.sizeOf5]
        have e1 : ((p : Int)).toNat = p := by omega
        have e2 : (hxDig d :: t).length = 65 - p := by simp; omega
        simp only [Result.andThen, slicedAt, e1, e2, Lib.add_plain]
        rw [if_neg (by omega)]
        simp
      have hcv := run_convert_bytes_back (P := Tryz.prog) (wr.setCell ⟨w.heap.size, p, none⟩ (.int .u8 ((hxDig d).toNat : Int))) 38 9 5 ⟨w.heap.size, p, none⟩ (65 - p) (hxDig d :: t) Tryz.underlying38 Tryz.underlying5 Tryz.underlying9 (fun j hj => by
        rw [Lib.add_plain]
        have := HR2.out.1 j hj
        rw [show 65 - (hxDig d :: t).length = p by simp; omega] at this
        rw [this, List.getD_eq_getElem?_getD, List.getElem?_eq_getElem hj]; rfl)
      rw [← HX2.out] at hcv hsl
      clear hd
      go_wp2_with fail
      go_ret2
      exact ⟨rfl, HW2.out⟩
set_option maxRecDepth 100000 in
theorem ifu_walk (u : Nat) (hu : u < 18446744073709551616) (w : World) (ht : Tab64 w) :
    Calls Tryz.prog 48 #[.int .u64 (u : Int), .int .i64 16] w fun e w' => e = .returned (.string ⟨(hexL u).toArray⟩) ∧ Below w.heap.size w w' := by
  go_enter Tryz.func48, Tryz.ntmps48
  go_wp2_with fail
  refine (formatBits_walk u hu w ht).mono ?_
  rintro e w1 ⟨rfl, hb1⟩
  go_wp2
  go_ret
  exact ⟨rfl, hb1⟩
set_option maxRecDepth 100000 in
theorem fu_walk (u : Nat) (hu : u < 18446744073709551616) (w : World) (ht : Tab64 w) :
    Calls Tryz.prog 22 #[.int .u64 (u : Int), .int .i64 16] w fun e w' => e = .returned (.string ⟨(hexL u).toArray⟩) ∧ Below w.heap.size w w' := by
  go_enter Tryz.func22, Tryz.ntmps22
  go_wp2_with fail
  refine (ifu_walk u hu w ht).mono ?_
  rintro e w1 ⟨rfl, hb1⟩
  go_wp2
  go_ret
  exact ⟨rfl, hb1⟩
end Go.Proofs.YtibjogbalmbeeaaGreatDoor

namespace Go.Proofs.YtibjogbalmbeeaaGreatDoor
open Go.RowKit Go.Sort

/-- The hexadecimal digits of r as a fraction of 2^64. -/
def digs : Nat → Nat → List UInt8
  | 0, _ => []
  | f + 1, r => if r = 0 then [] else hxDig (r / 2 ^ 60) :: digs f (r * 16 % 2 ^ 64)
theorem digs_zero (f : Nat) : digs f 0 = [] := by cases f <;> simp [digs]
theorem digs_step {k r : Nat} (h : k < 16) (hr : r ≠ 0) : digs (16 - k) r = hxDig (r / 2 ^ 60) :: digs (16 - (k + 1)) (r * 16 % 2 ^ 64) := by
  rw [show 16 - k = (16 - (k + 1)) + 1 by omega, digs, if_neg hr]
theorem dvd_step {k r : Nat} (h : k < 16) (hd : 16 ^ k ∣ r) : 16 ^ (k + 1) ∣ r * 16 % 2 ^ 64 := by
  have h1 : 16 ^ (k + 1) ∣ r * 16 := by rw [Nat.pow_succ]; exact Nat.mul_dvd_mul_right hd 16
  have h2 : 16 ^ (k + 1) ∣ 2 ^ 64 := by
    rw [show (2 : Nat) ^ 64 = 16 ^ 16 from rfl]; exact Nat.pow_dvd_pow 16 (by omega)
  exact (Nat.dvd_mod_iff h2).2 h1
theorem dvd_end {r : Nat} (hr : r < 2 ^ 64) (hd : 16 ^ 16 ∣ r) : r = 0 := by
  obtain ⟨q, hq⟩ := hd
  rw [show (2 : Nat) ^ 64 = 16 ^ 16 from rfl] at hr
  rw [hq] at hr
  have : q < 1 := Nat.lt_of_mul_lt_mul_left (a := 16 ^ 16) (by omega)
  rw [hq]; simp; omega
/-- A number's text: its sign, the fraction's digits, the exponent. -/
def prN (neg : Bool) (ds : List UInt8) (t : Int) : List UInt8 :=
  (if neg then [45] else []) ++ [48, 120, 49] ++ (if ds = [] then [] else 46 :: ds) ++ [112] ++ [if t < 0 then 45 else 43] ++ Lib.itoa (if t < 0 then -t else t)
end Go.Proofs.YtibjogbalmbeeaaGreatDoor

namespace Go.Proofs.YtibjogbalmbeeaaGreatDoor
open Go.RowKit Go.Sort

/-- The texts of what is no number. -/
def prR (neg : Bool) (c : Nat) : List UInt8 := if c = 4 then [110, 97, 110] else (if neg then [45] else []) ++ (if c = 3 then [105, 110, 102] else [48, 120, 48, 112, 43, 48])
/-- How long a text is. -/
def strLen (v : Value) : Nat := match v with | .string s => s.size | _ => 0
/-- The word that stands behind a mantissa's first bit, at the top. -/
def fracOf (m : Nat) : Nat := m * 2 ^ (63 - (blen m - 1)) % 2 ^ 64 * 2 % 2 ^ 64

set_option maxRecDepth 100000 in
set_option maxHeartbeats 2000000 in
theorem print_num_D (b : Nat) (hb : b < 18446744073709551616) (hz0 : b % 9223372036854775808 ≠ 0) (hfin : b % 9223372036854775808 < 9218868437227405312) (w : World) (ht : Tab64 w) (h10 : Tab10 w) :
    Calls Tryz.prog 9 #[.int .i64 64, .int .u64 (b : Int)] w fun e w' => e = .returned (.tuple #[.string ⟨(prN (decide (9223372036854775808 ≤ b)) (digs 16 (fracOf (ptM 4503599627370496 (b % 9223372036854775808)))) (ptE 4503599627370496 (-1074) (b % 9223372036854775808) + ((blen (ptM 4503599627370496 (b % 9223372036854775808)) - 1 : Nat) : Int))).toArray⟩, .int .i64 0]) ∧ Below w.heap.size w w' := by
  obtain ⟨neg, hneg⟩ : ∃ neg, decide (9223372036854775808 ≤ b) = neg := ⟨_, rfl⟩
  have hng : ((b : Int) / 9223372036854775808 != 0) = neg := by
    rw [← hneg, Bool.eq_iff_iff, bne_iff_ne, decide_eq_true_iff]; omega
  have hcl : clsN 4503599627370496 9218868437227405312 (b % 9223372036854775808) = 1 ∨ clsN 4503599627370496 9218868437227405312 (b % 9223372036854775808) = 2 := by
    unfold clsN; rw [if_neg hz0]
    split
    · exact .inl rfl
    · try rw [if_pos hfin]
      exact .inr rfl
  obtain ⟨c, hc⟩ : ∃ c, clsN 4503599627370496 9218868437227405312 (b % 9223372036854775808) = c := ⟨_, rfl⟩
  rw [hc] at hcl
  have hc4 : ((c : Int) == 4) = false := by rw [beq_eq_false_iff_ne]; omega
  have hc3 : ((c : Int) == 3) = false := by rw [beq_eq_false_iff_ne]; omega
  have hc0 : ((c : Int) == 0) = false := by rw [beq_eq_false_iff_ne]; omega
  have hm1 : ptM 4503599627370496 (b % 9223372036854775808) ≠ 0 ∧ ptM 4503599627370496 (b % 9223372036854775808) < 2 ^ 53 := by
    unfold ptM
    split <;> omega
  have hx1 : -1100 ≤ ptE 4503599627370496 (-1074) (b % 9223372036854775808) ∧ ptE 4503599627370496 (-1074) (b % 9223372036854775808) ≤ 1100 := by
    unfold ptE
    split <;> omega
  obtain ⟨m, hm⟩ : ∃ m, ptM 4503599627370496 (b % 9223372036854775808) = m := ⟨_, rfl⟩
  obtain ⟨x, hx⟩ : ∃ x, ptE 4503599627370496 (-1074) (b % 9223372036854775808) = x := ⟨_, rfl⟩
  rw [hm] at hm1
  rw [hx] at hx1
  have hbl1 := blen_pos hm1.1
  have hbl2 : blen m ≤ 53 := blen_le.2 hm1.2
  have hm64 : (m : Int) ≤ 18446744073709551615 := by have := hm1.2; omega
  have hLb : Lib.bitLen m = blen m := bitLen_blen (by rw [W64_num]; have := hm1.2; omega)
  have C1 := Lib.hid (classOf_D b hb)
  have C2 := Lib.hid (split_D b hb hfin)
  rw [hc] at C1
  rw [hneg, hm, hx] at C2
  rw [hneg, hm, hx]
  obtain ⟨n, hn⟩ : ∃ n, blen m = n + 1 := ⟨blen m - 1, by omega⟩
  have hnM : n < 53 := by omega
  rw [hn] at hLb ⊢
  have HLb := Lib.hid hLb
  obtain ⟨R0, hR0⟩ : ∃ R0, fracOf m = R0 := ⟨_, rfl⟩
  have hfr : m * 2 ^ (63 - n) % 2 ^ 64 * 2 % 2 ^ 64 = R0 := by rw [← hR0]; unfold fracOf; rw [hn]; rfl
  have hR64 : R0 < 2 ^ 64 := by rw [← hfr]; exact Nat.mod_lt _ (by omega)
  rw [hR0]
  have hRz : IntKind.u64.wrap (IntKind.u64.wrap ((m : Int) * 2 ^ (63 - n)) * 2) = (R0 : Int) := by
    have hA : (m : Int) * 2 ^ (63 - n) = ((m * 2 ^ (63 - n) : Nat) : Int) := by rw [Int.natCast_mul, Int.natCast_pow]; rfl
    rw [hA, IntKind.wrap_u64, IntKind.wrap_u64]
    generalize m * 2 ^ (63 - n) = a at hfr ⊢
    omega
  have HR := Lib.hid hR64
  have HT := Lib.hid ht
  have H10 := Lib.hid h10
  have HM := Lib.hid hm64
  obtain ⟨hx2, hx3⟩ := hx1
  clear hneg hc hm hx hm1 hb hz0 hfin hcl hbl1 hbl2 hLb hn hR0 hfr hR64 ht h10 hm64
  go_enter Tryz.func9, Tryz.ntmps9
  go_wp2_with fail
  refine (C1.out _).mono ?_
  rintro e w1 ⟨rfl, hb1⟩
  cases neg
  all_goals
    go_wp2_with fail
    refine (C2.out _).mono ?_
    rintro e w2 ⟨rfl, hb2⟩
    have HW := Lib.hid (below_chain hb1 hb2)
    go_wp2_with fail
    refine (Tryz.bits_Len64 _ _ (by omega) HM.out).mono ?_
    rintro e w3 ⟨rfl, rfl⟩
    simp only [Int.toNat_natCast]
    rw [HLb.out]
    clear hb1 hb2
    go_wp2_with fail
    go_loopw [13, 14] (fun D r wr => ∃ (k R : Nat) (ds : List UInt8), D = .string ⟨ds.toArray⟩ ∧ r = .int .u64 (R : Int) ∧ k ≤ 16 ∧ ds.length = k ∧ Hid (R < 2 ^ 64) ∧ Hid (16 ^ k ∣ R) ∧ Hid (digs 16 R0 = ds ++ digs (16 - k) R) ∧ Hid (RowKit.Below w.heap.size w wr)) (fun D _ _ => 16 - strLen D)
    case atStart => exact ⟨0, R0, [], rfl, rfl, by omega, rfl, HR, Lib.hid ⟨R0, by simp⟩, Lib.hid rfl, HW⟩
    case round =>
      obtain ⟨k, R, ds, rfl, rfl, hk, hl, HB, HD, HX, HW⟩ := hrel
      by_cases hR : R = 0
      · subst hR
        have HE := Lib.hid (show digs 16 R0 = ds by rw [HX.out, digs_zero, List.append_nil])
        have h0 : (((0 : Nat) : Int) != 0) = false := rfl
        have HT2 := Lib.hid (H10.out.below HW.out)
        have hni : ((n + 1 - 1 : Nat) : Int) = (n : Int) := by omega
        by_cases hds : ds = []
        · subst hds
          have hI1 := itoa_len (x + (n : Int)) (by omega) (by omega)
          have hI2 := itoa_len (-(x + (n : Int))) (by omega) (by omega)
          by_cases ht : x + (n : Int) < 0
          all_goals
            go_wp2_with fail
            refine (Tryz.strconv_Itoa _ (by omega) (by omega) _ HT2.out).mono ?_
            rintro e w4 ⟨rfl, k4, os, rfl⟩
            have HW4 := Lib.hid (below_grow (below_dn HW.out k4) (by simpa using HW.out.size) os)
            go_wp2
            go_ret2
            refine ⟨?_, HW4.out⟩
            rw [HE.out, hni]
            unfold prN
            first | rw [if_pos ht, if_pos ht] | rw [if_neg (show ¬ x + (n : Int) < 0 by omega), if_neg (show ¬ x + (n : Int) < 0 by omega)]
            first | (congr 3; done) | (congr 3; simp only [ByteArray.mk_append_mk]; congr 1; simp)
        · obtain ⟨c0, ds0, rfl⟩ := List.exists_cons_of_ne_nil hds
          have hl2 : ds0.length + 1 ≤ 16 := by rw [← hl] at hk; simpa using hk
          have hds2 : ((⟨(c0 :: ds0).toArray⟩ : ByteArray) != ⟨#[]⟩) = true := by
            rfl
          have hI1 := itoa_len (x + (n : Int)) (by omega) (by omega)
          have hI2 := itoa_len (-(x + (n : Int))) (by omega) (by omega)
          by_cases ht : x + (n : Int) < 0
          all_goals
            go_wp2_with fail
            refine (Tryz.strconv_Itoa _ (by omega) (by omega) _ HT2.out).mono ?_
            rintro e w4 ⟨rfl, k4, os, rfl⟩
            have HW4 := Lib.hid (below_grow (below_dn HW.out k4) (by simpa using HW.out.size) os)
            go_wp2
            go_ret2
            refine ⟨?_, HW4.out⟩
            rw [HE.out, hni]
            unfold prN
            first | rw [if_pos ht, if_pos ht] | rw [if_neg (show ¬ x + (n : Int) < 0 by omega), if_neg (show ¬ x + (n : Int) < 0 by omega)]
            first | (congr 3; done) | (congr 3; simp only [ByteArray.mk_append_mk]; congr 1; simp)
      · have hk16 : k < 16 := by
          rcases Nat.lt_or_ge k 16 with h | h
          · exact h
          · have e : k = 16 := by omega
            have := HD.out
            rw [e] at this
            exact absurd (dvd_end HB.out this) hR
        have hRb : ((R : Int) != 0) = true := by rw [bne_iff_ne]; omega
        obtain ⟨q, hq⟩ : ∃ q, R / 2 ^ 60 = q := ⟨_, rfl⟩
        have hqi : (R : Int) / 1152921504606846976 = (q : Int) := by omega
        have hq16 : q < 16 := by have := HB.out; omega
        obtain ⟨R', hR'⟩ : ∃ R', R * 16 % 2 ^ 64 = R' := ⟨_, rfl⟩
        have hwr : IntKind.u64.wrap ((R : Int) * 16) = (R' : Int) := by rw [IntKind.wrap_u64]; omega
        have HX2 := Lib.hid (show digs 16 R0 = (ds ++ [hxDig q]) ++ digs (16 - (k + 1)) R' by rw [HX.out, digs_step hk16 hR, hq, hR', List.append_assoc]; rfl)
        have HB2 := Lib.hid (show R' < 2 ^ 64 by rw [← hR']; exact Nat.mod_lt _ (by omega))
        have HD2 := Lib.hid (show 16 ^ (k + 1) ∣ R' by rw [← hR']; exact dvd_step hk16 HD.out)
        have HTq := Lib.hid (HT.out.below HW.out)
        have HQ := Lib.hid hq16
        have hJ := bs_app ds [hxDig q]
        clear hq hR' hR
        go_wp2_with fail
        refine (fu_walk q (by have := HQ.out; omega) _ HTq.out).mono ?_
        rintro e w4 ⟨rfl, hb4⟩
        rw [hexL_small HQ.out]
        have HW4 := Lib.hid (below_chain HW.out hb4)
        clear hb4
        go_wp2_with fail
        go_roundw
        case rel => exact ⟨_, _, _, _, _, _, _, _, _, _, _, ⟨k + 1, R', ds ++ [hxDig q], rfl, rfl, hk16, by simp [hl], HB2, HD2, HX2, HW4⟩, rfl⟩
        case measure => simp [strLen, hl, ByteArray.size]; omega

set_option maxRecDepth 100000 in
theorem print_rest_D (b : Nat) (hb : b < 18446744073709551616) (hcl : clsN 4503599627370496 9218868437227405312 (b % 9223372036854775808) = 0 ∨ clsN 4503599627370496 9218868437227405312 (b % 9223372036854775808) = 3 ∨ clsN 4503599627370496 9218868437227405312 (b % 9223372036854775808) = 4) (w : World) :
    Calls Tryz.prog 9 #[.int .i64 64, .int .u64 (b : Int)] w fun e w' => e = .returned (.tuple #[.string ⟨(prR (decide (9223372036854775808 ≤ b)) (clsN 4503599627370496 9218868437227405312 (b % 9223372036854775808))).toArray⟩, .int .i64 0]) ∧ Below w.heap.size w w' := by
  obtain ⟨neg, hneg⟩ : ∃ neg, decide (9223372036854775808 ≤ b) = neg := ⟨_, rfl⟩
  have hng : ((b : Int) / 9223372036854775808 != 0) = neg := by
    rw [← hneg, Bool.eq_iff_iff, bne_iff_ne, decide_eq_true_iff]; omega
  have C1 := Lib.hid (classOf_D b hb)
  rw [hneg]
  obtain ⟨c, hc⟩ : ∃ c, clsN 4503599627370496 9218868437227405312 (b % 9223372036854775808) = c := ⟨_, rfl⟩
  rw [hc] at C1 hcl ⊢
  clear hneg hb hc
  rcases hcl with rfl | rfl | rfl
  all_goals
    cases neg
    all_goals
      go_enter Tryz.func9, Tryz.ntmps9
      go_wp2_with fail
      refine (C1.out _).mono ?_
      rintro e w1 ⟨rfl, hb1⟩
      go_wp2
      go_ret2
      exact ⟨rfl, hb1⟩
end Go.Proofs.YtibjogbalmbeeaaGreatDoor
