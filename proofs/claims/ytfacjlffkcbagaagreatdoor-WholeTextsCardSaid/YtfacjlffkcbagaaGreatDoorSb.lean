/- Facts for Print: texts joined, hexadecimal digits of a fraction, the table of powers of ten. -/
import Derived.Test.YtfacjlffkcbagaaGreatDoorSa
import Derived.Test.YtfacjlffkcbagaaGreatDoorSz
import Derived.Lib.ItoaMem
namespace Go.Proofs.YtfacjlffkcbagaaGreatDoor
open Go.RowKit Go.Sort

/-- The hexadecimal digits of r as a fraction of 2^64. -/
def digs : Nat → Nat → List UInt8
  | 0, _ => []
  | f + 1, r => if r = 0 then [] else hxDig (r / 2 ^ 60) :: digs f (r * 16 % 2 ^ 64)
theorem digs_zero (f : Nat) : digs f 0 = [] := by cases f <;> simp [digs]
theorem digs_step {k r : Nat} (h : k < 16) (hr : r ≠ 0) : digs (16 - k) r = hxDig (r / 2 ^ 60) :: digs (16 - (k + 1)) (r * 16 % 2 ^ 64) := by
  rw [show 16 - k = (16 - (k + 1)) + 1 by omega, digs, if_neg hr]
theorem dvd_step {k r : Nat} (h : k < 16) (hd : 16 ^ k ∣ r) : 16 ^ (k + 1) ∣ r * 16 % 2 ^ 64 := by
  have h1 : 16 ^ (k + 1) ∣ r * 16 := by rw [Nat.pow_succ]; exact Nat.mul_dvd_mul_right hd 16
  have h2 : 16 ^ (k + 1) ∣ 2 ^ 64 := by
    rw [show (2 : Nat) ^ 64 = 16 ^ 16 from rfl]; exact Nat.pow_dvd_pow 16 (by omega)
  exact (Nat.dvd_mod_iff h2).2 h1
theorem dvd_end {r : Nat} (hr : r < 2 ^ 64) (hd : 16 ^ 16 ∣ r) : r = 0 := by
  obtain ⟨q, hq⟩ := hd
  rw [show (2 : Nat) ^ 64 = 16 ^ 16 from rfl] at hr
  rw [hq] at hr
  have : q < 1 := Nat.lt_of_mul_lt_mul_left (a := 16 ^ 16) (by omega)
  rw [hq]; simp; omega
/-- A number's text: its sign, the fraction's digits, the exponent. -/
def prN (neg : Bool) (ds : List UInt8) (t : Int) : List UInt8 :=
  (if neg then [45] else []) ++ [48, 120, 49] ++ (if ds = [] then [] else 46 :: ds) ++ [112] ++ [if t < 0 then 45 else 43] ++ Lib.itoa (if t < 0 then -t else t)
end Go.Proofs.YtfacjlffkcbagaaGreatDoor
