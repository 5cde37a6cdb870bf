/- Plain facts: shifts of naturals, limb by limb. No program in sight. -/
import Derived.Test.YtooehlneoboenaaGreatDoorPb
import Derived.Laws.Bits64b
import Derived.WalkKit
namespace Go.Proofs.YtooehlneoboenaaGreatDoor

theorem W_split {r : Nat} (h : r ≤ 64) : W64 = 2 ^ r * 2 ^ (64 - r) := by
  rw [W64_eq, ← Nat.pow_add]; congr 1; omega
theorem mul_pow_mod (b r : Nat) (h : r ≤ 64) : (b % W64 * 2 ^ (64 - r)) % W64 = 2 ^ (64 - r) * (b % 2 ^ r) := by
  rw [Nat.mod_mul_mod]
  rw [W_split h, Nat.mul_comm b, Nat.mul_comm (2 ^ r), Nat.mul_mod_mul_left]
theorem shr_mod (b r : Nat) (h : r ≤ 64) : (b / 2 ^ r) % W64 = (b % W64) / 2 ^ r + ((b / W64 % W64) * 2 ^ (64 - r)) % W64 := by
  rw [mul_pow_mod _ _ h]
  have hb : b = 2 ^ r * (2 ^ (64 - r) * (b / W64)) + b % W64 := by
    rw [← Nat.mul_assoc, ← W_split h]; exact (Nat.div_add_mod b W64).symm
  have h1 : b / 2 ^ r = 2 ^ (64 - r) * (b / W64) + (b % W64) / 2 ^ r := by
    conv => lhs; rw [hb]
    rw [Nat.mul_add_div (Nat.two_pow_pos r)]
  have h2 : (b % W64) / 2 ^ r < 2 ^ (64 - r) := by
    rw [Nat.div_lt_iff_lt_mul (Nat.two_pow_pos r), Nat.mul_comm, ← W_split h]; exact Nat.mod_lt _ W64_pos
  rw [h1]
  generalize (b % W64) / 2 ^ r = x at *
  generalize b / W64 = c at *
  have hp := Nat.two_pow_pos (64 - r)
  have h3 : 2 ^ (64 - r) * c % W64 = 2 ^ (64 - r) * (c % 2 ^ r) := by
    rw [W_split h, Nat.mul_comm (2 ^ r), Nat.mul_mod_mul_left]
  have h4 : x + 2 ^ (64 - r) * (c % 2 ^ r) < W64 := by
    have : c % 2 ^ r + 1 ≤ 2 ^ r := Nat.mod_lt _ (Nat.two_pow_pos r)
    have h5 := Nat.mul_le_mul_left (2 ^ (64 - r)) this
    rw [Nat.mul_add, Nat.mul_comm (2 ^ (64 - r)) (2 ^ r), ← W_split h] at h5
    omega
  rw [Nat.add_comm, Nat.add_mod, h3, Nat.mod_eq_of_lt (by omega : x < W64), Nat.mod_eq_of_lt h4]
theorem shr_limb (a n k : Nat) : (a / 2 ^ n) / W64 ^ k % W64 = (a / W64 ^ (n / 64 + k) % W64) / 2 ^ (n % 64) + ((a / W64 ^ (n / 64 + k + 1) % W64) * 2 ^ (64 - n % 64)) % W64 := by
  have h1 : a / 2 ^ n / W64 ^ k = (a / W64 ^ (n / 64 + k)) / 2 ^ (n % 64) := by
    rw [Nat.div_div_eq_div_mul, Nat.div_div_eq_div_mul, W64_pow, W64_pow, ← Nat.pow_add, ← Nat.pow_add]
    congr 2; omega
  have h2 : a / W64 ^ (n / 64 + k + 1) = (a / W64 ^ (n / 64 + k)) / W64 := by rw [Nat.pow_succ, Nat.div_div_eq_div_mul]
  rw [h1, h2]
  exact shr_mod _ _ (by omega)
theorem or_word (x y r : Nat) (hx : x < W64) (hr : r < 64) :
    bits BinOp.or IntKind.u64 ((x : Int) / 2 ^ r) (IntKind.u64.wrap (IntKind.u64.wrap ((y : Int) * 2) * 2 ^ (63 - r))) = ((x / 2 ^ r + (y % W64 * 2 ^ (64 - r)) % W64 : Nat) : Int) := by
  have e1 : ((x : Int) / 2 ^ r) = ((x / 2 ^ r : Nat) : Int) := by simp
  have e2 : IntKind.u64.wrap (IntKind.u64.wrap ((y : Int) * 2) * 2 ^ (63 - r)) = ((y % W64 * 2 ^ (64 - r) % W64 : Nat) : Int) := by
    have hp : 2 ^ (64 - r) = 2 * 2 ^ (63 - r) := by rw [← Nat.pow_succ']; congr 1; omega
    rw [IntKind.wrap_u64, IntKind.wrap_u64, Nat.mod_mul_mod, hp, ← Nat.mul_assoc, W64_eq]
    have e3 : ((y : Int) * 2) % 18446744073709551616 = ((y * 2 % 18446744073709551616 : Nat) : Int) := by omega
    have e4 : (2 : Int) ^ (63 - r) = ((2 ^ (63 - r) : Nat) : Int) := by simp
    rw [e3, e4, ← Int.natCast_mul]
    have e5 : (18446744073709551616 : Int) = ((18446744073709551616 : Nat) : Int) := rfl
    rw [e5, ← Int.natCast_emod, Nat.mod_mul_mod]
  have h1 : x / 2 ^ r < 2 ^ (64 - r) := by
    rw [Nat.div_lt_iff_lt_mul (Nat.two_pow_pos r), Nat.mul_comm, ← W_split (by omega)]; exact hx
  have h2 : x / 2 ^ r < 18446744073709551616 := by
    have := Nat.lt_of_le_of_lt (Nat.div_le_self x (2 ^ r)) hx
    rwa [W64_eq] at this
  have h3 : (y % W64 * 2 ^ (64 - r)) % W64 < 18446744073709551616 := by
    have := Nat.mod_lt (y % W64 * 2 ^ (64 - r)) W64_pos
    rwa [W64_eq] at this ⊢
  rw [e1, e2, bits_or_u64_nat _ _ h2 h3, mul_pow_mod _ _ (by omega), Nat.or_comm, ← Nat.two_pow_add_eq_or_of_lt h1, Nat.add_comm]
end Go.Proofs.YtooehlneoboenaaGreatDoor
