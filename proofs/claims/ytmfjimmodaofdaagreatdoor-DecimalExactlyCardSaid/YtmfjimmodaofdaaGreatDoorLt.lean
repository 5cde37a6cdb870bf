/- Walk of the law's pat; walk of the law Back. -/
import Derived.Test.YtmfjimmodaofdaaGreatDoorV7
import Derived.Test.YtmfjimmodaofdaaGreatDoorQt
namespace Go.Proofs.YtmfjimmodaofdaaGreatDoor
open Go.RowKit

/-- The pattern that a law takes: the word, or its lower half. -/
def pB (d : Bool) (b : Nat) : Nat := if d then b % 4294967296 else b
theorem pB_lt (d : Bool) {b : Nat} (hb : b < 18446744073709551616) : pB d b < 2 ^ ((fmB d).S + 1) := by
  cases d
  · exact hb
  · exact Nat.mod_lt _ (by decide)
theorem docclass_any (f : Fm) (hf : f.ok) (b : Nat) (hb : b < 2 ^ (f.S + 1)) (w : World) :
    Calls Tryz.prog 36 #[.int .i64 (fmt f), .int .u64 (b : Int)] w fun e w' => e = .returned (.tuple #[.int .i64 ((clsF f (b % 2 ^ f.S) : Nat) : Int), .int .i64 0]) ∧ Below w.heap.size w w' := by
  rcases hf with h | h <;> subst h
  · exact docclass_S b hb w
  · exact docclass_D b hb w

set_option maxRecDepth 100000 in
theorem pat_walk (d : Bool) (b : Nat) (hb : b < 18446744073709551616) (w : World) :
    Calls Tryz.prog 13 #[.bool d, .int .u64 (b : Int)] w fun e w' => e = .returned (.tuple #[.int .u64 ((pB d b : Nat) : Int), .int .i64 ((clsF (fmB d) (pB d b % 2 ^ (fmB d).S) : Nat) : Int)]) ∧ Below w.heap.size w w' := by
  have HF := Lib.hid (fun W => format_walk d W)
  have HC := Lib.hid (fun W => docclass_any (fmB d) (fmB_ok d) (pB d b) (pB_lt d hb) W)
  obtain ⟨FF, hFF⟩ : ∃ FF, fmt (fmB d) = FF := ⟨_, rfl⟩
  rw [hFF] at HF HC
  obtain ⟨c, hc⟩ : ∃ c, clsF (fmB d) (pB d b % 2 ^ (fmB d).S) = c := ⟨_, rfl⟩
  rw [hc] at HC ⊢
  have hmk := mask_at (b := b) (M := 4294967295) (S := 32) hb rfl (by omega)
  rw [show b % 2 ^ 32 = pB true b from rfl, show ((4294967295 : Nat) : Int) = 4294967295 from rfl] at hmk
  clear hFF hc hb
  cases d
  · have hp : pB false b = b := rfl
    rw [hp] at HC ⊢
    clear hmk hp
    go_enter Tryz.func13, Tryz.ntmps13
    go_wp2_with fail
    refine (HF.out _).mono ?_
    rintro e w1 ⟨rfl, hw1⟩
    have h := hw1.symm
    subst h
    clear hw1
    go_wp2_with fail
    refine (HC.out _).mono ?_
    rintro e w2 ⟨rfl, hb2⟩
    go_wp2
    go_ret2
    exact ⟨rfl, hb2⟩
  · obtain ⟨p, hp⟩ : ∃ p, pB true b = p := ⟨_, rfl⟩
    rw [hp] at HC hmk ⊢
    clear hp
    go_enter Tryz.func13, Tryz.ntmps13
    go_wp2_with fail
    refine (HF.out _).mono ?_
    rintro e w1 ⟨rfl, hw1⟩
    have h := hw1.symm
    subst h
    clear hw1
    go_wp2_with fail
    refine (HC.out _).mono ?_
    rintro e w2 ⟨rfl, hb2⟩
    go_wp2
    go_ret2
    exact ⟨rfl, hb2⟩

set_option maxRecDepth 100000 in
set_option maxHeartbeats 1000000 in
theorem back_walk (d : Bool) (b : Nat) (hb : b < 18446744073709551616) (w : World) (ht : Tab64 w) (h10 : Tab10 w) :
    Calls Tryz.prog 3 #[.bool d, .int .u64 (b : Int)] w fun e w' => e = .returned (.bool true) ∧ Below w.heap.size w w' := by
  have hF := format_walk d w
  have hC := fun W => pat_walk d b hb W
  have hpl := pB_lt d hb
  have hP := fun (x : ByteArray) (hx : x.size ≤ 9223372036854775807) W (h : Below w.heap.size w W) => dparse_walk (fmB d) (fmB_ok d) x W hx (ht.below h)
  have hPr := fun W (h : Below w.heap.size w W) => dprint_any (fmB d) (fmB_ok d) (pB d b) hpl W (ht.below h) (h10.below h)
  have hQ := fun W => quiet_any (fmB d) (fmB_ok d) W
  have hA := fun W (h : Below w.heap.size w W) => awake_walk W (ht.below h) (h10.below h)
  have hcn := cls_nan (fmB_ok d) (pB d b % 2 ^ (fmB d).S)
  have hF0 := fmB_ok d
  obtain ⟨F, hFd⟩ : ∃ F, fmB d = F := ⟨_, rfl⟩
  rw [hFd] at hF hC hP hPr hQ hcn hF0 hpl
  obtain ⟨p, hp⟩ : ∃ p, pB d b = p := ⟨_, rfl⟩
  rw [hp] at hC hPr hcn hpl
  obtain ⟨FF, hFF⟩ : ∃ FF, fmt F = FF := ⟨_, rfl⟩
  rw [hFF] at hF hP hPr hQ
  obtain ⟨c, hc⟩ : ∃ c, clsF F (p % 2 ^ F.S) = c := ⟨_, rfl⟩
  rw [hc] at hC hcn
  have HF := Lib.hid hF
  have HC := Lib.hid hC
  have HP := Lib.hid hP
  have HPr := Lib.hid hPr
  have HQ := Lib.hid hQ
  have HA := Lib.hid hA
  have H0 := Lib.hid hF0
  have HPl := Lib.hid hpl
  clear hF hC hP hPr hQ hA hF0 hFd hFF hp hc ht h10 hb hpl
  go_enter Tryz.func3, Tryz.ntmps3
  go_wp2_with fail
  refine HF.out.mono ?_
  rintro e w0 ⟨rfl, hw0⟩
  have h := hw0.symm
  subst h
  clear hw0 HF
  go_wp2_with fail
  refine (HC.out _).mono ?_
  rintro e w1 ⟨rfl, hb1⟩
  have HW1 := Lib.hid hb1
  clear hb1 HC
  go_wp2_with fail
  refine (HA.out _ HW1.out).mono ?_
  rintro e w2 ⟨rfl, hb2⟩
  have HW2 := Lib.hid (below_chain HW1.out hb2)
  clear hb2 HA HW1
  go_wp2_with fail
  refine (HPr.out _ HW2.out).mono ?_
  rintro e w3 ⟨T, rfl, hT, hb3⟩
  have HW3 := Lib.hid (below_chain HW2.out hb3)
  have hTl : (bs T).size ≤ 9223372036854775807 := prOk_len hT
  have HT := Lib.hid hT
  have HTl := Lib.hid hTl
  clear hb3 HPr HW2 hT hTl
  go_wp2_with fail
  refine (HP.out (bs T) HTl.out _ HW3.out).mono ?_
  rintro e w4 ⟨v, k, rfl, hok, hb4⟩
  have HW4 := Lib.hid (below_chain HW3.out hb4)
  obtain ⟨rfl, h1, h2, h3⟩ := back_plain HPl.out HT.out hok
  have hE : (bs T).toList.isEmpty = false := by
    rw [bs_list]
    cases T with
    | nil => exact absurd rfl h1
    | cons a l => rfl
  clear hb4 hok HP HW3 h1
  by_cases hn : F.inf < p % 2 ^ F.S
  · obtain ⟨rfl, rfl⟩ := h2 hn
    have hc4 : ((c : Int) == 4) = true := by rw [beq_iff_eq]; have := hcn.2 hn; omega
    have hse : ((bs [110, 97, 110]).toList == [110, 97, 110]) = true := by rw [beq_iff_eq]; exact bs_list _
    obtain ⟨q, hq⟩ : ∃ q, F.quiet = q := ⟨_, rfl⟩
    rw [hq] at HQ ⊢
    clear h2 h3 hn hcn HT HTl hq H0 HPl
    go_wp2_with fail
    refine (HQ.out _).mono ?_
    rintro e w5 ⟨rfl, hb5⟩
    have HW5 := Lib.hid (below_chain HW4.out hb5)
    clear hb5
    go_wp2
    go_ret
    exact ⟨rfl, HW5.out⟩
  · obtain rfl := h3 (by omega)
    have hc4 : ((c : Int) == 4) = false := by rw [beq_eq_false_iff_ne]; intro e; exact hn (hcn.1 (by omega))
    clear h2 h3 hn hcn HT HTl H0 HPl HQ
    go_wp2
    go_ret
    exact ⟨rfl, HW4.out⟩
end Go.Proofs.YtmfjimmodaofdaaGreatDoor
