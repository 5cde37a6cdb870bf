/- Walk of the laws' helper awake. -/
import Derived.Test.YtooehlneoboenaaGreatDoorHi
import Derived.Test.YtooehlneoboenaaGreatDoorHj
namespace Go.Proofs.YtooehlneoboenaaGreatDoor
open Go.RowKit Go.Sort

def awS : ByteArray := ⟨#[45, 48, 120, 49, 46, 56, 112, 49]⟩
theorem aw_parse : parseOf fmD awS = some 13837309855095848960 := by decide +kernel
theorem aw_prP : prP fmD awS = 13837309855095848960 := by
  unfold prP; rw [if_pos (by decide), aw_parse]; rfl
theorem aw_prE : prE fmD awS = 0 := by
  unfold prE; rw [if_pos (by decide), aw_parse]; rfl
theorem aw_print : prN (decide (9223372036854775808 ≤ 4609434218613702656)) (digs 16 (fracOf (ptM 4503599627370496 (4609434218613702656 % 9223372036854775808)))) (ptE 4503599627370496 (-1074) (4609434218613702656 % 9223372036854775808) + ((blen (ptM 4503599627370496 (4609434218613702656 % 9223372036854775808)) - 1 : Nat) : Int)) = [48, 120, 49, 46, 56, 112, 43, 48] := by decide +kernel

set_option maxRecDepth 100000 in
theorem awake_walk (w : World) (ht : Tab64 w) (h10 : Tab10 w) :
    Calls Tryz.prog 6 #[] w fun e w' => e = .returned (.bool true) ∧ Below w.heap.size w w' := by
  have C1 := Lib.hid (parse_walk_D awS w (by decide) ht)
  rw [aw_prP, aw_prE] at C1
  have C2 := fun w h1 h2 => print_num_D 4609434218613702656 (by decide) (by decide) (by decide) w h1 h2
  rw [aw_print] at C2
  have HT := Lib.hid ht
  have H10 := Lib.hid h10
  have C2' := Lib.hid C2
  clear ht h10 C2
  go_enter Tryz.func6, Tryz.ntmps6
  go_wp2_with fail
  refine C1.out.mono ?_
  rintro e w1 ⟨rfl, hb1⟩
  go_wp2_with fail
  refine (C2'.out w1 (HT.out.below hb1) (H10.out.below hb1)).mono ?_
  rintro e w2 ⟨rfl, hb2⟩
  go_wp2
  go_ret
  exact ⟨rfl, below_chain hb1 hb2⟩
end Go.Proofs.YtooehlneoboenaaGreatDoor
