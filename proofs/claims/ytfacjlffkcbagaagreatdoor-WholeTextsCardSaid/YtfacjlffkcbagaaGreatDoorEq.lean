/- Walk of decimal: Digits, of every pattern and count. -/
import Derived.Test.YtfacjlffkcbagaaGreatDoorPx
namespace Go.Proofs.YtfacjlffkcbagaaGreatDoor
open Go.RowKit

theorem rnd_nr {f : Fm} (hf : f.ok) {z m u : Nat} {q : Int} (hm : m * 2 ^ (u + 1) = 2 * vP f z) : rnd (inA m (f.L + (u : Int)) q) (inB (f.L + (u : Int)) q) = nrN f z q := by
  have hL : f.L ≤ 0 := Int.le_of_lt (Fm.ok.facts hf).2.2.1
  obtain ⟨h1, h2⟩ := in_units (f := f) (q := q) (x := f.L + (u : Int)) (u := u + 1) (by omega) hL hm
  have hB := inB_pos (f.L + (u : Int)) q
  generalize inA m (f.L + (u : Int)) q = A at *
  generalize inB (f.L + (u : Int)) q = B at *
  obtain ⟨e1, e2, _⟩ := div_scale (Nat.two_pow_pos _) (Nat.two_pow_pos _) hB h1 h2
  have e3 : A / B = shL f z q := e1
  have e4 : cmpI (2 * (A % B)) B = cmpI (2 * shR f z q) (ufF f q) := e2
  have hr := Nat.mod_lt A hB
  have e5 : cmpI (A % B) (B - A % B) = cmpI (2 * shR f z q) (ufF f q) := by
    rw [← e4]
    unfold cmpI
    by_cases c1 : 2 * (A % B) < B
    · rw [if_pos c1, if_pos (by omega)]
    · rw [if_neg c1, if_neg (by omega)]
      by_cases c2 : 2 * (A % B) = B
      · rw [if_pos c2, if_pos (by omega)]
      · rw [if_neg c2, if_neg (by omega)]
  unfold rnd nrN shN moreN
  rw [e5, e3]
  rcases cmpI_cases (2 * shR f z q) (ufF f q) with h | h | h <;> rw [h] <;> cases tb (shL f z q) 0 <;> simp
/-- What Digits answers. -/
def DgAns (f : Fm) (b : Nat) (n : Int) (T : List UInt8) (k : Int) : Prop :=
  if n < 1 ∨ 800 < n then T = [] ∧ k = 1 else if f.inf ≤ b % 2 ^ f.S then T = [] ∧ k = 6 else k = 0 ∧ DgOk f b n.toNat T
theorem dgAns_bad {f : Fm} {b : Nat} {n : Int} (h : n < 1 ∨ 800 < n) : DgAns f b n [] 1 := by unfold DgAns; rw [if_pos h]; exact ⟨rfl, rfl⟩
theorem dgAns_cls {f : Fm} {b : Nat} {n : Int} (h : ¬ (n < 1 ∨ 800 < n)) (h2 : f.inf ≤ b % 2 ^ f.S) : DgAns f b n [] 6 := by unfold DgAns; rw [if_neg h, if_pos h2]; exact ⟨rfl, rfl⟩
theorem dgAns_ok {f : Fm} {b n : Nat} {T : List UInt8} (h1 : 1 ≤ n) (h2 : n ≤ 800) (h3 : ¬ f.inf ≤ b % 2 ^ f.S) (h : DgOk f b n T) : DgAns f b (n : Int) T 0 := by
  unfold DgAns; rw [if_neg (by omega), if_neg h3]; exact ⟨rfl, by rw [Int.toNat_natCast]; exact h⟩
theorem bs_nil : (⟨#[]⟩ : ByteArray) = bs [] := rfl
theorem classOf_any (f : Fm) (hf : f.ok) (b : Nat) (hb : b < 2 ^ (f.S + 1)) (w : World) :
    Calls Tryz.prog 21 #[.int .i64 (fmt f), .int .u64 (b : Int)] w fun e w' => e = .returned (.tuple #[.int .i64 ((clsF f (b % 2 ^ f.S) : Nat) : Int), .int .i64 0]) ∧ Below w.heap.size w w' := by
  rcases hf with h | h <;> subst h
  · exact classOf_S b hb w
  · exact classOf_D b hb w
theorem itoa_zero : Lib.itoa 0 = [48] := by
  rw [show Lib.itoa 0 = Lib.decDigits 0 from Lib.itoa_nonneg 0, Lib.decDigits_one (by decide)]; rfl
end Go.Proofs.YtfacjlffkcbagaaGreatDoor
