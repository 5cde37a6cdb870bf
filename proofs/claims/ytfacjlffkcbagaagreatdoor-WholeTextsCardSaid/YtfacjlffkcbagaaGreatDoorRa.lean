/- Walks of round: of, signed, infinity. -/
import Derived.Test.YtfacjlffkcbagaaGreatDoorDa
namespace Go.Proofs.YtfacjlffkcbagaaGreatDoor
open Go.RowKit

/-- What a format is made of, for layer 8: the mantissa's bits, the least exponent, the sign's place. -/
structure Fm where
  P : Nat
  L : Int
  S : Nat
def fmS : Fm := ⟨24, -149, 31⟩
def fmD : Fm := ⟨53, -1074, 63⟩
def Fm.val (f : Fm) : Value := .agg #[.int .i64 f.P, .int .i64 f.L, .int .i64 f.S]
def Fm.inf (f : Fm) : Nat := 2 ^ f.S - 2 ^ (f.P - 1)
def Fm.ok (f : Fm) : Prop := f = fmS ∨ f = fmD

set_option maxRecDepth 100000 in
theorem rof_single (w : World) : Calls Tryz.prog 77 #[.int .i64 32] w fun e w' => e = .returned fmS.val ∧ Below w.heap.size w w' := by
  go_enter Tryz.func77, Tryz.ntmps77
  go_wp2
  refine bodyPost_ret (v := fmS.val) (by simp [results, Tryz.results77, go_sem, Fm.val, fmS]) rfl ⟨rfl, ?_⟩
  exact below_alloc' w _

set_option maxRecDepth 100000 in
theorem rof_double (w : World) : Calls Tryz.prog 77 #[.int .i64 64] w fun e w' => e = .returned fmD.val ∧ Below w.heap.size w w' := by
  go_enter Tryz.func77, Tryz.ntmps77
  go_wp2
  refine bodyPost_ret (v := fmD.val) (by simp [results, Tryz.results77, go_sem, Fm.val, fmD]) rfl ⟨rfl, ?_⟩
  exact below_alloc' w _

/-- The pattern of a size with that sign. -/
def sgn (f : Fm) (neg : Bool) (x : Nat) : Nat := if neg then 2 ^ f.S + x else x
theorem or_high (S x : Nat) (hS : S = 31 ∨ S = 63) (hx : x < 2 ^ S) : bits BinOp.or IntKind.u64 (x : Int) ((2 ^ S : Nat) : Int) = ((2 ^ S + x : Nat) : Int) := by
  have h1 : 2 ^ S < 18446744073709551616 := by rcases hS with h | h <;> subst h <;> decide
  rw [bits_or_u64_nat _ _ (by omega) h1, Nat.or_comm]
  have := Nat.two_pow_add_eq_or_of_lt hx 1
  rw [Nat.mul_one] at this
  rw [this]

set_option maxRecDepth 100000 in
theorem signed_walk (f : Fm) (hf : f.ok) (neg : Bool) (x : Nat) (hx : x < 2 ^ f.S) (w : World) :
    Calls Tryz.prog 79 #[f.val, .bool neg, .int .u64 (x : Int)] w fun e w' => e = .returned (.int .u64 ((sgn f neg x : Nat) : Int)) ∧ Below w.heap.size w w' := by
  have ho := or_high f.S x (by rcases hf with h | h <;> subst h <;> simp [fmS, fmD]) hx
  rcases hf with h | h <;> subst h
  · have ho2 : bits BinOp.or IntKind.u64 (x : Int) 2147483648 = ((2 ^ 31 + x : Nat) : Int) := ho
    have HO := Lib.hid ho2
    clear ho ho2 hx
    cases neg
    all_goals
      unfold Fm.val fmS
      go_enter Tryz.func79, Tryz.ntmps79
      go_wp2
      go_ret
      exact ⟨by first | rfl | exact ret_int (HO.out.trans (by rw [Int.natCast_add]; rfl)), below_alloc' w _⟩
  · have ho2 : bits BinOp.or IntKind.u64 (x : Int) 9223372036854775808 = ((2 ^ 63 + x : Nat) : Int) := ho
    have HO := Lib.hid ho2
    clear ho ho2 hx
    cases neg
    all_goals
      unfold Fm.val fmD
      go_enter Tryz.func79, Tryz.ntmps79
      go_wp2
      go_ret
      exact ⟨by first | rfl | exact ret_int (HO.out.trans (by rw [Int.natCast_add]; rfl)), below_alloc' w _⟩

set_option maxRecDepth 100000 in
theorem infinity_walk (f : Fm) (hf : f.ok) (w : World) :
    Calls Tryz.prog 126 #[f.val] w fun e w' => e = .returned (.int .u64 ((f.inf : Nat) : Int)) ∧ Below w.heap.size w w' := by
  rcases hf with h | h <;> subst h
  · unfold Fm.val fmS
    go_enter Tryz.func126, Tryz.ntmps126
    go_wp2
    go_quiet (fail)
    go_wp2
    go_ret
    exact ⟨rfl, below_dn (below_alloc' w _) _⟩
  · unfold Fm.val fmD
    go_enter Tryz.func126, Tryz.ntmps126
    go_wp2
    go_quiet (fail)
    go_wp2
    go_ret
    exact ⟨rfl, below_dn (below_alloc' w _) _⟩
end Go.Proofs.YtfacjlffkcbagaaGreatDoor
