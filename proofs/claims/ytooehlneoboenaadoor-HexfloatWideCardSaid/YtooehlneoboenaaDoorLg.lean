/- What the laws' walks share: Parse at a format, strconv.Itoa, a text's bytes. -/
import Derived.Test.YtooehlneoboenaaDoorLa
import Derived.Test.YtooehlneoboenaaDoorTb
import Derived.Laws.Concat
namespace Go.Proofs.YtooehlneoboenaaDoor
open Go.RowKit Go.Sort

/-- The format of a number. -/
def fmOf (f : Int) : Fm := if f = 32 then fmS else fmD
theorem parse_any (f : Int) (hf : f = 32 ∨ f = 64) (s : ByteArray) (hs : s.size ≤ 4000) (w : World) (ht : Tab64 w) :
    Calls Tryd.prog 13 #[.int .i64 f, .string s] w fun e w' => e = .returned (.tuple #[.int .u64 (((parseOf (fmOf f) s).getD 0 : Nat) : Int), .int .i64 (if (parseOf (fmOf f) s).isSome then 0 else 8)]) ∧ Below w.heap.size w w' := by
  rcases hf with rfl | rfl
  · refine (parse_walk_S s w (by omega) ht).mono fun e w' ⟨he, hb⟩ => ⟨?_, hb⟩
    rw [he]; unfold prP prE; rw [if_pos hs, if_pos hs]; rfl
  · refine (parse_walk_D s w (by omega) ht).mono fun e w' ⟨he, hb⟩ => ⟨?_, hb⟩
    rw [he]; unfold prP prE; rw [if_pos hs, if_pos hs]; rfl
theorem parse_small {f : Fm} (hf : f.ok) {s : ByteArray} {p : Nat} (h : sgB s 0 = false) (hp : parseOf f s = some p) : p < 2 ^ f.S := by
  have hi := inf_lt f hf
  unfold parseOf at hp
  split at hp
  · injection hp with hp
    rw [← hp]
    rcases hf with h | h <;> subst h <;> decide
  · rw [h] at hp
    split at hp
    · injection hp with hp
      rw [← hp, sgn_false]; exact hi
    · split at hp
      · cases hp
      · rename_i a x k _
        split at hp
        · cases hp
        · injection hp with hp
          rw [← hp, sgn_false]; exact Nat.lt_of_le_of_lt (hxPat_le f a x) hi

theorem fmOf_ok {f : Int} (hf : f = 32 ∨ f = 64) : (fmOf f).ok := by rcases hf with rfl | rfl; exact .inl rfl; exact .inr rfl
/-- Parse of a text that means a pattern. -/
theorem parse_bs (f : Int) (hf : f = 32 ∨ f = 64) (l : List UInt8) (p : Nat) (hl : l.length ≤ 4000) (hp : parseOf (fmOf f) (bs l) = some p) (W : World) (ht : Tab64 W) :
    Calls Tryd.prog 13 #[.int .i64 f, .string (bs l)] W fun e w' => e = .returned (.tuple #[.int .u64 (p : Int), .int .i64 0]) ∧ Below W.heap.size W w' := by
  have := parse_any f hf (bs l) (by rw [bs_size]; exact hl) W ht
  rw [hp] at this
  exact this
theorem itoa_walk (y : Int) (h0 : -10000000 ≤ y) (h1 : y ≤ 10000000) (w : World) (h10 : Tab10 w) :
    Calls Tryd.prog 17 #[.int .i64 y] w fun e w' => e = .returned (.string (bs (Lib.itoa y))) ∧ Below w.heap.size w w' := by
  refine (Tryd.strconv_Itoa _ (by omega) (by omega) _ h10).mono ?_
  rintro e w4 ⟨rfl, k4, os, rfl⟩
  exact ⟨rfl, below_grow (below_dn (Below.refl _ _) k4) (by simp) os⟩
theorem fu_bs (u : Nat) (hu : u < 18446744073709551616) (w : World) (ht : Tab64 w) :
    Calls Tryd.prog 20 #[.int .u64 (u : Int), .int .i64 16] w fun e w' => e = .returned (.string (bs (hexL u))) ∧ Below w.heap.size w w' := fu_walk u hu w ht
theorem hexL_len : ∀ (k u : Nat), u < 16 ^ (k + 1) → (hexL u).length ≤ k + 1
  | 0, u, h => by rw [hexL_small (by omega)]; simp
  | k + 1, u, h => by
    by_cases h1 : u < 16
    · rw [hexL_small h1]; simp
    · rw [hexL_big h1, List.length_append]
      have := hexL_len k (u / 16) (by rw [Nat.pow_succ] at h; omega)
      simp; omega
theorem hexL_len64 {u : Nat} (h : u < 18446744073709551616) : (hexL u).length ≤ 16 := hexL_len 15 u (by omega)
/-- A concatenation of two texts. -/
theorem add_bs (a b : List UInt8) (h : a.length + b.length ≤ 1000000) (W : World) : (Op.stringOp .add (bs a) (bs b)).run Tryd.prog W = .ok (.string (bs (a ++ b))) W := by
  rw [run_string_add_sum W (bs a) (bs b) (by rw [bs_size, bs_size]; omega), bs_append]
end Go.Proofs.YtooehlneoboenaaDoor
