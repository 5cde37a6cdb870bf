/- Walk of the law Enough. -/
import Derived.Test.YtmfjimmodaofdaaGreatDoorLy
import Derived.Test.YtmfjimmodaofdaaGreatDoorLt
namespace Go.Proofs.YtmfjimmodaofdaaGreatDoor
open Go.RowKit

theorem big_17 {f : Fm} (hf : f.ok) {n : Nat} (h : 17 ≤ n) : 2 ^ f.P < 10 ^ (n - 1) := by
  have h1 : f.P ≤ 53 := by rcases hf with h | h <;> subst h <;> decide
  have h2 : 2 ^ f.P ≤ 2 ^ 53 := Nat.pow_le_pow_right (by omega) h1
  have h3 : 10 ^ 16 ≤ 10 ^ (n - 1) := Nat.pow_le_pow_right (by omega) (by omega)
  have h4 : 2 ^ 53 < 10 ^ 16 := by decide
  omega
theorem big_9 {n : Nat} (h : 9 ≤ n) : 2 ^ fmS.P < 10 ^ (n - 1) := by
  have h3 : 10 ^ 8 ≤ 10 ^ (n - 1) := Nat.pow_le_pow_right (by omega) (by omega)
  have h4 : 2 ^ fmS.P < 10 ^ 8 := by decide
  omega

set_option maxRecDepth 100000 in
set_option maxHeartbeats 4000000 in
theorem enough_walk (d : Bool) (b : Nat) (n : Int) (hb : b < 18446744073709551616) (w : World) (ht : Tab64 w) (h10 : Tab10 w) :
    Calls Tryz.prog 10 #[.bool d, .int .u64 (b : Int), .int .i64 n] w fun r w' => r = .returned (.bool true) ∧ Below w.heap.size w w' := by
  have hF := format_walk d w
  have hC := fun W => pat_walk d b hb W
  have hpl := pB_lt d hb
  have hP := fun (x : ByteArray) (hx : x.size ≤ 9223372036854775807) W (h : Below w.heap.size w W) => dparse_walk (fmB d) (fmB_ok d) x W hx (ht.below h)
  have hDg := fun W (h : Below w.heap.size w W) => ddg_any (fmB d) (fmB_ok d) (pB d b) hpl n W (ht.below h) (h10.below h)
  have hD1 := fun W (h : Below w.heap.size w W) => ddg_any fmD (.inr rfl) 4607182418800017408 (by decide) 3 W (ht.below h) (h10.below h)
  rw [fmt_D] at hD1
  have hA := fun W (h : Below w.heap.size w W) => awake_walk W (ht.below h) (h10.below h)
  have hci := cls_inf (fmB_ok d) (pB d b % 2 ^ (fmB d).S)
  have hcc := cls_cases (fmB d) (pB d b % 2 ^ (fmB d).S)
  have hF0 := fmB_ok d
  have hdS : d = true → fmB d = fmS := fun h => by subst h; rfl
  obtain ⟨F, hFd⟩ : ∃ F, fmB d = F := ⟨_, rfl⟩
  rw [hFd] at hF hC hP hDg hci hcc hF0 hpl hdS
  obtain ⟨p, hp⟩ : ∃ p, pB d b = p := ⟨_, rfl⟩
  rw [hp] at hC hDg hci hcc hpl
  obtain ⟨FF, hFF⟩ : ∃ FF, fmt F = FF := ⟨_, rfl⟩
  rw [hFF] at hF hP hDg
  obtain ⟨c, hc⟩ : ∃ c, clsF F (p % 2 ^ F.S) = c := ⟨_, rfl⟩
  rw [hc] at hC hci hcc
  have HF := Lib.hid hF
  have HC := Lib.hid hC
  have HP := Lib.hid hP
  have HDg := Lib.hid hDg
  have HD1 := Lib.hid hD1
  have HA := Lib.hid hA
  have H0 := Lib.hid hF0
  have HPl := Lib.hid hpl
  have HdS := Lib.hid hdS
  have HCi := Lib.hid (And.intro hci hcc)
  have hse : ((bs [49, 46, 48, 48, 101, 48]).toList == [49, 46, 48, 48, 101, 48]) = true := by rw [beq_iff_eq]; exact bs_list _
  have hse2 : ((bs [49, 46, 48, 48, 101, 48]).toList != [49, 46, 48, 48, 101, 48]) = false := by rw [bne, hse]; rfl
  clear hF hC hP hDg hD1 hA hF0 hFd hFF hp hc ht h10 hb hpl hci hcc hdS
  go_enter Tryz.func10, Tryz.ntmps10
  go_wp2_with fail
  refine HF.out.mono ?_
  rintro r w0 ⟨rfl, hw0⟩
  have h := hw0.symm
  subst h
  clear hw0 HF
  go_wp2_with fail
  refine (HC.out _).mono ?_
  rintro r w1 ⟨rfl, hb1⟩
  have HW1 := Lib.hid hb1
  clear hb1 HC
  go_wp2_with fail
  refine (HD1.out _ HW1.out).mono ?_
  rintro r w2 ⟨T0, k0, rfl, hok, hb2⟩
  obtain ⟨rfl, rfl⟩ := dg_one hok
  have HW2 := Lib.hid (below_chain HW1.out hb2)
  clear hb2 HD1 HW1 hok
  go_wp2_with fail
  refine (HA.out _ HW2.out).mono ?_
  rintro r w3 ⟨rfl, hb3⟩
  have HW3 := Lib.hid (below_chain HW2.out hb3)
  clear hb3 HA HW2 hse hse2
  go_wp2_with fail
  refine (HDg.out _ HW3.out).mono ?_
  rintro r w4 ⟨T, k, rfl, hok, hb4⟩
  have HW4 := Lib.hid (below_chain HW3.out hb4)
  clear hb4 HDg HW3
  by_cases hbad : n < 1 ∨ 800 < n
  · unfold DgAns at hok
    rw [if_pos hbad] at hok
    obtain ⟨rfl, rfl⟩ := hok
    have hemp : (bs []).toList.isEmpty = true := by rw [bs_list]; rfl
    by_cases h1 : n < 1
    · clear hbad
      go_wp2
      go_ret
      exact ⟨rfl, HW4.out⟩
    · have h2 : 800 < n := hbad.resolve_left h1
      have h3 : decide (n < 1) = false := decide_eq_false h1
      clear hbad
      go_wp2
      go_ret
      exact ⟨rfl, HW4.out⟩
  have h1 : ¬ n < 1 := fun h => hbad (.inl h)
  have h2 : ¬ 800 < n := fun h => hbad (.inr h)
  have h3 : decide (n < 1) = false := decide_eq_false h1
  by_cases hcl : F.inf ≤ p % 2 ^ F.S
  · unfold DgAns at hok
    rw [if_neg hbad, if_pos hcl] at hok
    obtain ⟨rfl, rfl⟩ := hok
    have hemp : (bs []).toList.isEmpty = true := by rw [bs_list]; rfl
    have hc := HCi.out.1.2 hcl
    clear hbad hcl
    rcases hc with rfl | rfl
    · go_wp2
      go_ret
      exact ⟨rfl, HW4.out⟩
    · go_wp2
      go_ret
      exact ⟨rfl, HW4.out⟩
  have hcn : ((c : Int) == 3) = false ∧ ((c : Int) == 4) = false := by
    have : ¬ (c = 3 ∨ c = 4) := fun h => hcl (HCi.out.1.1 h)
    exact ⟨by rw [beq_eq_false_iff_ne]; omega, by rw [beq_eq_false_iff_ne]; omega⟩
  obtain ⟨hcn1, hcn2⟩ := hcn
  unfold DgAns at hok
  rw [if_neg hbad, if_neg hcl] at hok
  obtain ⟨rfl, hok⟩ := hok
  obtain ⟨m, rfl⟩ := Int.eq_ofNat_of_zero_le (show 0 ≤ n by omega)
  rw [Int.toNat_natCast] at hok
  have hTl := dg_len (by omega) (by omega) hok
  have HTl := Lib.hid (show (bs T).size ≤ 9223372036854775807 ∧ T.length ≤ 2000 from ⟨by rw [bs_size]; omega, by omega⟩)
  have HM := Lib.hid (show 1 ≤ m ∧ m ≤ 800 by omega)
  have HCl := Lib.hid hcl
  have HOk := Lib.hid hok
  clear hok hTl hbad hcl
  go_wp2_with fail
  refine (HP.out (bs T) HTl.out.1 _ HW4.out).mono ?_
  rintro r w5 ⟨v, k5, rfl, hok5, hb5⟩
  have HW5 := Lib.hid (below_chain HW4.out hb5)
  obtain ⟨rfl, hback⟩ := dg_back H0.out HPl.out HCl.out HM.out.1 HM.out.2 HOk.out hok5
  have HBk := Lib.hid hback
  clear hb5 hok5 hback HW4 HP
  by_cases h17 : 17 ≤ (m : Int)
  · have hv := HBk.out (big_17 H0.out (by omega))
    subst hv
    clear HBk HOk
    go_wp2
    go_ret
    exact ⟨rfl, HW5.out⟩
  have h17d : decide ((17 : Int) ≤ (m : Int)) = false := decide_eq_false h17
  cases d
  · have hcnt := dg_count HM.out.1 HOk.out
    have HCt := Lib.hid hcnt
    clear hcnt HBk
    go_wp2_with fail
    refine (ldigits_walk T HTl.out.2 _).mono ?_
    rintro r w6 ⟨rfl, hb6⟩
    have hle : ((bs (digS T)).size : Int) ≤ (m : Int) := by have := HCt.out; rw [bs_size]; omega
    obtain ⟨S, hS⟩ : ∃ S, bs (digS T) = S := ⟨_, rfl⟩
    rw [hS] at hle ⊢
    have HW6 := Lib.hid (below_chain HW5.out hb6)
    clear hS hb6
    go_wp2
    go_ret
    exact ⟨rfl, HW6.out⟩
  · by_cases h9 : 9 ≤ (m : Int)
    · have hFS := HdS.out rfl
      subst hFS
      have hv := HBk.out (big_9 (by omega))
      subst hv
      clear HBk HOk
      go_wp2
      go_ret
      exact ⟨rfl, HW5.out⟩
    · have h9d : decide ((9 : Int) ≤ (m : Int)) = false := decide_eq_false h9
      have hcnt := dg_count HM.out.1 HOk.out
      have HCt := Lib.hid hcnt
      clear hcnt HBk
      go_wp2_with fail
      refine (ldigits_walk T HTl.out.2 _).mono ?_
      rintro r w6 ⟨rfl, hb6⟩
      have hle : ((bs (digS T)).size : Int) ≤ (m : Int) := by have := HCt.out; rw [bs_size]; omega
      obtain ⟨S, hS⟩ : ∃ S, bs (digS T) = S := ⟨_, rfl⟩
      rw [hS] at hle ⊢
      have HW6 := Lib.hid (below_chain HW5.out hb6)
      clear hS hb6
      go_wp2
      go_ret
      exact ⟨rfl, HW6.out⟩
end Go.Proofs.YtmfjimmodaofdaaGreatDoor
