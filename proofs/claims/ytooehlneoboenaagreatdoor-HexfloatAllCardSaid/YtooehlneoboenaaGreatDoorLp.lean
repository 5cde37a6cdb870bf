/- The walk of HexfloatAll. -/
import Derived.Test.YtooehlneoboenaaGreatDoorLn
import Derived.Test.YtooehlneoboenaaGreatDoorLm
namespace Go.Proofs.YtooehlneoboenaaGreatDoor
open Go.RowKit

set_option maxRecDepth 100000 in
theorem plays_other (k f : Int) (s : ByteArray) (b : Int) (h1 : k ≠ 1) (h2 : k ≠ 2) (w : World) :
    Calls Tryz.prog 7 #[.agg #[.int .i64 k, .int .i64 f, .string s, .int .u64 b]] w fun e w' => e = .returned (.bool true) ∧ Below w.heap.size w w' := by
  have hb0 := below_alloc' w (.cells #[.int .i64 k, .int .i64 f, .string s, .int .u64 b] 27)
  have HW0 := Lib.hid hb0
  have e1 : (k == 1) = false := by rw [beq_eq_false_iff_ne]; exact h1
  have e2 : (k == 2) = false := by rw [beq_eq_false_iff_ne]; exact h2
  clear hb0 h1 h2
  go_enter Tryz.func7, Tryz.ntmps7
  go_wp2
  go_ret
  exact ⟨rfl, HW0.out⟩
theorem plays_any (k f : Int) (s : ByteArray) (b : Nat) (hs : s.size ≤ 9223372036854775807) (hb : b < 18446744073709551616) (w : World) (ht : Tab64 w) (h10 : Tab10 w) :
    Calls Tryz.prog 7 #[.agg #[.int .i64 k, .int .i64 f, .string s, .int .u64 (b : Int)]] w fun e w' => e = .returned (.bool true) ∧ Below w.heap.size w w' := by
  by_cases h1 : k = 1
  · subst h1; exact plays_one f s hs b w ht
  by_cases h2 : k = 2
  · subst h2; exact plays_two f s b hb w ht h10
  · exact plays_other k f s b h1 h2 w

/-- The call number i of a script lies in memory. -/
def OpAt (W : World) (A : Option Addr) (i : Nat) : Prop := ∃ (bk off : Nat) (k f : Int) (s : ByteArray) (b : Nat), A = some ⟨bk, off, none⟩ ∧
  W.cell? ⟨bk, off + i * 4, none⟩ = some (.int .i64 k) ∧ W.cell? ⟨bk, off + i * 4 + 1, none⟩ = some (.int .i64 f) ∧ W.cell? ⟨bk, off + i * 4 + 2, none⟩ = some (.string s) ∧ W.cell? ⟨bk, off + i * 4 + 3, none⟩ = some (.int .u64 (b : Int)) ∧
  s.size ≤ 9223372036854775807 ∧ b < 18446744073709551616

set_option maxRecDepth 100000 in
set_option maxHeartbeats 1000000 in
theorem all_walk (A : Option Addr) (n c : Nat) (hn : n ≤ 1152921504606846976) (w : World) (ho : ∀ i, i < n → OpAt w A i) (ht : Tab64 w) (h10 : Tab10 w) :
    Calls Tryz.prog 5 #[.slice A n c] w fun e w' => e = .returned (.bool true) ∧ Below w.heap.size w w' := by
  have HPl := Lib.hid plays_any
  have HT := Lib.hid ht
  have H10 := Lib.hid h10
  have HO := Lib.hid ho
  have HN := Lib.hid hn
  have p1 : IntKind.i64.wrap (2 * (n : Int)) = 2 * (n : Int) := by rw [IntKind.wrap_i64]; omega
  clear ht h10 ho hn
  go_enter Tryz.func5, Tryz.ntmps5
  go_wp2_with fail
  refine (awake_walk w HT.out H10.out).mono ?_
  rintro e w1 ⟨rfl, hb1⟩
  have HW1 := Lib.hid hb1
  clear hb1
  go_wp2_with fail
  go_loopw [3] (fun i wr => ∃ k : Nat, k ≤ 2 * n ∧ i = .int .i64 (k : Int) ∧ Hid (RowKit.Below w.heap.size w wr)) (fun i _ => 2 * n - (intOf i).toNat)
  case atStart => exact ⟨0, by omega, rfl, HW1⟩
  case round =>
    obtain ⟨k, hk, rfl, HW⟩ := hrel
    by_cases hkn : k < 2 * n
    · have hn0 : 0 < n := by omega
      obtain ⟨r, hr⟩ : ∃ r, k % n = r := ⟨_, rfl⟩
      have hrn : r < n := by rw [← hr]; exact Nat.mod_lt _ hn0
      obtain ⟨bk, off, kk, ff, s, b, rfl, c0, c1, c2, c3, hs, hb⟩ := HO.out r hrn
      have d0 : wr.cell? ⟨bk, off + r * 4, none⟩ = some (.int .i64 kk) := cell_kept HW.out c0
      have d1 : wr.cell? ⟨bk, off + r * 4 + 1, none⟩ = some (.int .i64 ff) := cell_kept HW.out c1
      have d2 : wr.cell? ⟨bk, off + r * 4 + 2, none⟩ = some (.string s) := cell_kept HW.out c2
      have d3 : wr.cell? ⟨bk, off + r * 4 + 3, none⟩ = some (.int .u64 (b : Int)) := cell_kept HW.out c3
      have HP := Lib.hid (fun W hT hX => HPl.out kk ff s b hs hb W hT hX)
      have e1 : (k : Int) % (n : Int) = (r : Int) := by rw [← hr]; first | exact (Int.natCast_mod k n).symm | exact (Int.natCast_emod k n).symm | (exact (Int.ofNat_emod k n).symm)
      have e2 : (k : Int).tmod (n : Int) = (r : Int) := by rw [Int.tmod_eq_emod_of_nonneg (by omega)]; exact e1
      have e3 : ((n : Int) == 0) = false := by rw [beq_eq_false_iff_ne]; omega
      have hk2 : (k : Int) < 2 * (n : Int) := by omega
      have hri : (r : Int) < (n : Int) := by omega
      have hkw : IntKind.i64.wrap ((k : Int) + 1) = (k : Int) + 1 := by have := HN.out; rw [IntKind.wrap_i64]; omega
      clear hs hb c0 c1 c2 c3 hr
      go_wp2_with fail
      refine (HP.out _ (HT.out.below HW.out) (H10.out.below HW.out)).mono ?_
      rintro e w5 ⟨rfl, hb5⟩
      have HW5 := Lib.hid (below_chain HW.out hb5)
      clear hb5 d0 d1 d2 d3 e1 e2 e3 hri
      go_wp2
      go_round
      case rel => exact ⟨k + 1, by omega, by go_num, HW5⟩
      case measure => simp [intOf]; omega
    · have hk2 : ¬ (k : Int) < 2 * (n : Int) := by omega
      go_wp2
      go_ret
      exact ⟨rfl, HW.out⟩
end Go.Proofs.YtooehlneoboenaaGreatDoor
