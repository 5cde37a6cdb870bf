/- The law Back, plain: what Print answers is read back. -/
import Derived.Test.YtmfjimmodaofdaaGreatDoorTs
import Derived.Test.YtmfjimmodaofdaaGreatDoorEp
namespace Go.Proofs.YtmfjimmodaofdaaGreatDoor
open Go.RowKit

/-- A size's class. -/
def clsF (f : Fm) (z : Nat) : Nat := clsN (2 ^ (f.P - 1)) f.inf z
theorem inf_hidden {f : Fm} (hf : f.ok) : 2 ^ (f.P - 1) ≤ f.inf := by rcases hf with h | h <;> subst h <;> decide
theorem cls_fin {f : Fm} (hf : f.ok) (z : Nat) : (clsF f z = 1 ∨ clsF f z = 2) ↔ z ≠ 0 ∧ z < f.inf := by
  have hp := inf_hidden hf
  have h0 := Nat.two_pow_pos (f.P - 1)
  unfold clsF clsN
  generalize 2 ^ (f.P - 1) = hi at *
  split
  · omega
  · split
    · omega
    · split
      · omega
      · split <;> omega
theorem cls_inf {f : Fm} (hf : f.ok) (z : Nat) : (clsF f z = 3 ∨ clsF f z = 4) ↔ f.inf ≤ z := by
  have hp := inf_hidden hf
  have h0 := Nat.two_pow_pos (f.P - 1)
  unfold clsF clsN
  generalize 2 ^ (f.P - 1) = hi at *
  split
  · omega
  · split
    · omega
    · split
      · omega
      · split <;> omega

/-- A digit's byte. -/
def dgC (u : Nat) : UInt8 := UInt8.ofNat (48 + u)
theorem dgC_val (x : Nat) : (((dgC (x % 10)).toNat : Nat) : Int) = 48 + (x : Int) % 10 := by
  have hd := (digit_byte (u := x % 10) (Nat.mod_lt _ (by omega))).2.2
  unfold dgC
  rw [hd]; omega
theorem digs_step {x : Nat} (h : ¬ x < 10) : Lib.decDigits x = Lib.decDigits (x / 10) ++ [dgC (x % 10)] := by rw [Lib.decDigits, dif_neg h]; rfl
theorem digs_last {x : Nat} (h : x < 10) : Lib.decDigits x = [dgC (x % 10)] := by rw [Lib.decDigits_one h, Nat.mod_eq_of_lt h]; rfl
/-- What is still to be told of n, and what is told: L. -/
def telling (n x : Nat) (L : List UInt8) : Prop := (if x = 0 then L else Lib.decDigits x ++ L) = Lib.decDigits n
theorem telling_next {n x : Nat} {L : List UInt8} (h : telling n x L) (hx : x ≠ 0) : telling n (x / 10) ([dgC (x % 10)] ++ L) := by
  unfold telling at h ⊢
  rw [if_neg hx] at h
  by_cases h1 : x < 10
  · rw [if_pos (by omega), ← h, digs_last h1]
  · rw [if_neg (by omega), ← h, digs_step h1, List.append_assoc]
end Go.Proofs.YtmfjimmodaofdaaGreatDoor
