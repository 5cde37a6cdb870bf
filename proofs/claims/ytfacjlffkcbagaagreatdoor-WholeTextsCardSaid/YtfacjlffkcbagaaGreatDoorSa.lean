/- Walks of strconv: FormatUint at base 16. -/
import Derived.Test.YtfacjlffkcbagaaGreatDoorWa
import Derived.Lib.ItoaWalk
namespace Go.Proofs.YtfacjlffkcbagaaGreatDoor
open Go.RowKit

/-- A hexadecimal digit's letter. -/
def hxDig (d : Nat) : UInt8 := if d < 10 then UInt8.ofNat (48 + d) else UInt8.ofNat (87 + d)
/-- The hexadecimal numeral of u. -/
def hexL (u : Nat) : List UInt8 := if u < 16 then [hxDig u] else hexL (u / 16) ++ [hxDig (u % 16)]
termination_by u
decreasing_by omega
theorem hexL_small {u : Nat} (h : u < 16) : hexL u = [hxDig u] := by rw [hexL, if_pos h]
theorem hexL_big {u : Nat} (h : ¬ u < 16) : hexL u = hexL (u / 16) ++ [hxDig (u % 16)] := by rw [hexL, if_neg h]
/-- The end of the array of 65 bytes spells t. -/
def Row65 (W : World) (N : Nat) (t : List UInt8) : Prop :=
  (∀ j (_ : j < t.length), W.cell? ⟨N, 65 - t.length + j, none⟩ = some (.int .u8 ((t.getD j 0).toNat : Int))) ∧
  (∀ j, j < 65 → ∃ x, W.cell? ⟨N, j, none⟩ = some (.int .u8 x)) ∧ (∀ j, j < 65 → W.frozen? ⟨N, j, none⟩ = false)
theorem zeros65_at (j : Nat) (h : j < 65) : Tryz.zeroCells186[j]? = some (.int .u8 0) := by
  have e : Tryz.zeroCells186 = Array.replicate 65 (.int .u8 0) := by kernel_rfl
  rw [e]; simp [h]
theorem Row65.new (w : World) : Row65 (w.alloc (.cells Tryz.zeroCells186 186)) w.heap.size [] :=
  ⟨fun j h => absurd h (by simp), fun j h => ⟨0, by rw [World.cell?_alloc_new]; exact zeros65_at j h⟩, fun j _ => World.frozen?_alloc_new _ _ _ _⟩
theorem Row65.put {W : World} {N : Nat} {t : List UInt8} (h : Row65 W N t) {p : Nat} (hp : p + 1 + t.length = 65) (c : UInt8) : Row65 (W.setCell ⟨N, p, none⟩ (.int .u8 (c.toNat : Int))) N (c :: t) := by
  obtain ⟨h1, h2, h3⟩ := h
  have hs : ∀ j, j < 65 → (W.setCell ⟨N, p, none⟩ (.int .u8 (c.toNat : Int))).cell? ⟨N, j, none⟩ = if j = p then some (.int .u8 (c.toNat : Int)) else W.cell? ⟨N, j, none⟩ := fun j hj => by
    split
    · rename_i e; subst e
      obtain ⟨x, hx⟩ := h2 j hj
      exact World.cell?_setCell_same' _ _ _ (by rw [hx]; rfl)
    · rename_i hne
      exact cell_other (fun e => hne (by have := congrArg Addr.off e; exact this.symm))
  refine ⟨fun j hj => ?_, fun j hj => ?_, fun j hj => ?_⟩
  · simp only [List.length_cons] at hj ⊢
    rw [hs _ (by omega)]
    cases j with
    | zero => rw [if_pos (by omega)]; simp
    | succ j =>
      rw [if_neg (by omega), show 65 - (t.length + 1) + (j + 1) = 65 - t.length + j by omega, h1 j (by omega)]
      simp
  · rw [hs j hj]; split
    · exact ⟨_, rfl⟩
    · exact h2 j hj
  · have := h3 j hj
    simpa [World.frozen?_setCell] using this
theorem row_room {v u q : Nat} {t : List UInt8} (h : q = 0) (hq : q + t.length = 65) (hv : t = [] ∨ 0 < v) (hu : v * 16 ^ t.length ≤ u) (h64 : u < 18446744073709551616) : False := by
  have e : t.length = 65 := by omega
  rcases hv with rfl | hv
  · simp at e
  · rw [e] at hu
    have := Nat.le_trans (Nat.le_mul_of_pos_left (16 ^ 65) hv) hu
    omega
theorem digits_at : ∀ d : Fin 16, Lib.digits36.data.toList.getD d.val 0 = hxDig d.val := by decide +kernel
theorem idx_digits (k : IntKind) (d : Nat) (hd : d < 16) (w : World) : (Instr.index 9 (.string Lib.digits36) (.int k (d : Int))).run Tryz.prog w = .ok (.int .u8 ((hxDig d).toNat : Int)) w := by
  rw [run_index_string w _ Lib.digits36 k _ Tryz.underlying9, dif_pos ⟨by omega, by rw [Lib.digits36_size]; omega⟩]
  have e : ((d : Int)).toNat = d := by omega
  simp only [e]
  rw [Lib.getD_at Lib.digits36 d (by rw [Lib.digits36_size]; omega), digits_at ⟨d, hd⟩]

set_option maxRecDepth 100000 in
theorem pow2_walk (w : World) : Calls Tryz.prog 147 #[.int .i64 16] w fun e w' => e = .returned (.bool true) ∧ w' = w := by
  have hb : bits .and .i64 16 15 = 0 := by kernel_rfl
  go_enter Tryz.func147, Tryz.ntmps147
  go_wp2
  go_ret
  exact ⟨rfl, rfl⟩

set_option maxRecDepth 100000 in
theorem tz_walk (w : World) (ht : Tab64 w) : Calls Tryz.prog 148 #[.int .u64 16] w fun e w' => e = .returned (.int .i64 4) ∧ w' = w := by
  refine (Any7.bits_TrailingZeros Tryz.lays7_27 16 (by omega) w (fun _ => ht)).mono ?_
  rintro e w1 ⟨rfl, rfl⟩
  exact ⟨by rw [show Lib.ctz 64 16 = 4 by decide]; rfl, rfl⟩

set_option maxRecDepth 100000 in
theorem formatBits_walk (u : Nat) (hu : u < 18446744073709551616) (w : World) (ht : Tab64 w) :
    Calls Tryz.prog 116 #[.slice none 0 0, .int .u64 (u : Int), .int .i64 16, .bool false, .bool false] w fun e w' => e = .returned (.tuple #[.slice none 0 0, .string ⟨(hexL u).toArray⟩]) ∧ Below w.heap.size w w' := by
  have hRow := Row65.new w
  have hbw := below_alloc' w (.cells Tryz.zeroCells186 186)
  go_enter Tryz.func116, Tryz.ntmps116
  go_name_bytes_deep 45 PM hPM
  clear hPM
  go_name_bytes DG hDG
  have eDG : DG = Lib.digits36 := by rw [← hDG]; decide +kernel
  subst eDG
  clear hDG
  go_wp2_with fail
  generalize w.alloc (.cells Tryz.zeroCells186 186) = w1 at *
  refine (pow2_walk _).mono ?_
  rintro e w2 ⟨rfl, rfl⟩
  go_wp2_with fail
  refine (tz_walk _ (ht.below hbw)).mono ?_
  rintro e w3 ⟨rfl, rfl⟩
  have HR := Lib.hid hRow
  have HW := Lib.hid hbw
  clear hRow hbw ht
  go_wp2_with fail
  go_loopw [1, 13] (fun vv vq wr => ∃ (v q : Nat) (t : List UInt8), vv = .int .u64 (v : Int) ∧ vq = .int .i64 (q : Int) ∧ v < 18446744073709551616 ∧ q + t.length = 65 ∧ Hid (t = [] ∨ 0 < v) ∧ Hid (v * 16 ^ t.length ≤ u) ∧ Hid (hexL u = hexL v ++ t) ∧ Hid (Row65 wr w.heap.size t) ∧ Hid (Below w.heap.size w wr)) (fun vv _ _ => (intOf vv).toNat)
  case atStart => exact ⟨u, 65, [], rfl, rfl, hu, by simp, Lib.hid (.inl rfl), Lib.hid (by simp), Lib.hid (by simp), HR, HW⟩
  case round =>
    obtain ⟨v, q, t, rfl, rfl, hv, hq, HV, HU, HX, HR, HW⟩ := hrel
    obtain ⟨p, rfl⟩ : ∃ p, q = p + 1 := by
      refine ⟨q - 1, ?_⟩
      by_cases h : q = 0
      · exfalso
        exact row_room h hq HV.out HU.out hu
      · omega
    obtain ⟨x, hx⟩ := HR.out.2.1 p (by omega)
    have hf := HR.out.2.2 p (by omega)
    obtain ⟨d, hd⟩ : ∃ d, v % 16 = d := ⟨_, rfl⟩
    have hand : bits .and .u64 (v : Int) 15 = (d : Int) := by
      have h1 := bits_and_u64_nat v 15 hv (by omega)
      rw [show ((15 : Nat) : Int) = 15 from rfl] at h1
      rw [h1, show (15 : Nat) = 2 ^ 4 - 1 from rfl, Nat.and_two_pow_sub_one_eq_mod, show (2 : Nat) ^ 4 = 16 from rfl, hd]
    have hd16 : d < 16 := by omega
    have hix := fun w => idx_digits .u64 d hd16 w
    have HR2 := Lib.hid (HR.out.put (p := p) (by omega) (hxDig d))
    have HW2 := Lib.hid (HW.out.setCell (p := ⟨w.heap.size, p, none⟩) (Nat.le_refl _) (.int .u8 ((hxDig d).toNat : Int)))
    by_cases h16 : 16 ≤ v
    · have HX2 := Lib.hid (show hexL v = hexL (v / 16) ++ [hxDig d] by rw [hexL_big (by omega), hd])
      clear hd
      go_wp2_with fail
      go_roundw
      case rel =>
        refine ⟨v / 16, p, hxDig d :: t, by first | go_num | (congr 1; omega), rfl, by omega, by simp; omega, Lib.hid (.inr (by omega)), Lib.hid ?_, Lib.hid ?_, HR2, HW2⟩
        · rw [List.length_cons, Nat.pow_succ, Nat.mul_comm (16 ^ t.length), ← Nat.mul_assoc]
          exact Nat.le_trans (Nat.mul_le_mul_right _ (by omega)) HU.out
        · rw [HX.out, HX2.out, List.append_assoc]; rfl
      case measure => simp [intOf]; omega
    · have hdv : d = v := by omega
      subst hdv
      have HX2 := Lib.hid (show hexL u = hxDig d :: t by rw [HX.out, hexL_small hd16]; rfl)
      have hsl : ∀ W, (Instr.sliceAt 186 (.pointer (some ⟨w.heap.size, 0, none⟩)) (some (.int .i64 (p : Int))) none none).run Tryz.prog W = .ok (.slice (some ⟨w.heap.size, p, none⟩) (hxDig d :: t).length (65 - p)) W := fun W => by
        have hal : Tryz.prog.arrayLen 186 = 65 := by kernel_rfl
        have hel : Tryz.prog.elem 186 = 5 := by kernel_rfl
        rw [run_sliceAt_array_l W 186 ⟨w.heap.size, 0, none⟩ (by rw [hal, hel]; exact Tryz.underlying186) .i64 (p : Int) (by omega) (by rw [hal]; omega), hal, hel, Tryz.sizeOf5]
        have e1 : ((p : Int)).toNat = p := by omega
        have e2 : (hxDig d :: t).length = 65 - p := by simp; omega
        simp only [Result.andThen, slicedAt, e1, e2, Lib.add_plain]
        rw [if_neg (by omega)]
        simp
      have hcv := run_convert_bytes_back (P := Tryz.prog) (wr.setCell ⟨w.heap.size, p, none⟩ (.int .u8 ((hxDig d).toNat : Int))) 145 9 5 ⟨w.heap.size, p, none⟩ (65 - p) (hxDig d :: t) Tryz.underlying145 Tryz.underlying5 Tryz.underlying9 (fun j hj => by
        rw [Lib.add_plain]
        have := HR2.out.1 j hj
        rw [show 65 - (hxDig d :: t).length = p by simp; omega] at this
        rw [this, List.getD_eq_getElem?_getD, List.getElem?_eq_getElem hj]; rfl)
      rw [← HX2.out] at hcv hsl
      clear hd
      go_wp2_with fail
      go_ret2
      exact ⟨rfl, HW2.out⟩
set_option maxRecDepth 100000 in
theorem ifu_walk (u : Nat) (hu : u < 18446744073709551616) (w : World) (ht : Tab64 w) :
    Calls Tryz.prog 65 #[.int .u64 (u : Int), .int .i64 16] w fun e w' => e = .returned (.string ⟨(hexL u).toArray⟩) ∧ Below w.heap.size w w' := by
  go_enter Tryz.func65, Tryz.ntmps65
  go_wp2_with fail
  refine (formatBits_walk u hu w ht).mono ?_
  rintro e w1 ⟨rfl, hb1⟩
  go_wp2
  go_ret
  exact ⟨rfl, hb1⟩
set_option maxRecDepth 100000 in
theorem fu_walk (u : Nat) (hu : u < 18446744073709551616) (w : World) (ht : Tab64 w) :
    Calls Tryz.prog 27 #[.int .u64 (u : Int), .int .i64 16] w fun e w' => e = .returned (.string ⟨(hexL u).toArray⟩) ∧ Below w.heap.size w w' := by
  go_enter Tryz.func27, Tryz.ntmps27
  go_wp2_with fail
  refine (ifu_walk u hu w ht).mono ?_
  rintro e w1 ⟨rfl, hb1⟩
  go_wp2
  go_ret
  exact ⟨rfl, hb1⟩
end Go.Proofs.YtfacjlffkcbagaaGreatDoor
