/- Plain facts: what Parse reads in a text that is spelt as a sign, digits, a point and digits, an exponent; and in what Print lays out. -/
import Derived.Test.YtmfjimmodaofdaaGreatDoorEf
import Derived.Test.YtmfjimmodaofdaaGreatDoorEk
namespace Go.Proofs.YtmfjimmodaofdaaGreatDoor
open Go.RowKit

theorem all_dec {l : List UInt8} (h : l.all dgQ = true) : l.all isDec = true := by
  rw [List.all_eq_true] at h ⊢
  intro c hc
  obtain ⟨h1, h2, _⟩ := dgQ_val (h c hc)
  exact (isDec_iff c).2 ⟨h1, h2⟩
/-- Noughts at the end. -/
theorem dcV_zeros (l : List UInt8) (k : Nat) : dcV (l ++ List.replicate k 48) = dcV l * 10 ^ k := by
  have h0 : ∀ k, dcV (List.replicate k 48) = 0 := fun k => by
    induction k with
    | zero => rfl
    | succ k ih => rw [List.replicate_succ, dcV_zero_cons, ih]
  rw [dcV_append, h0, List.length_replicate, Nat.add_zero]
theorem zeros_dec (k : Nat) : (List.replicate k (48 : UInt8)).all isDec = true := by
  rw [List.all_eq_true]
  intro c hc
  rw [List.eq_of_mem_replicate hc]
  decide
theorem digs_dec (d : Nat) : (Lib.decDigits d).all isDec = true := all_dec (dcV_digits d).2.1
end Go.Proofs.YtmfjimmodaofdaaGreatDoor
