/- Walk of decimal: tens. · Walks of decimal: minus, pointed, lay, stripped. · Facts for the walk of decimal: shortest. -/
import Derived.Test.YtibjogbalmbeeaaGreatDoorU28
import Derived.Test.YtibjogbalmbeeaaGreatDoorU20
import Derived.Test.YtibjogbalmbeeaaGreatDoorU06

namespace Go.Proofs.YtibjogbalmbeeaaGreatDoor
open Go.RowKit

structure TnS (w w' : World) (v : Value) (m : Nat) (x : Int) (v1 : Value) : Prop where
  c0 : w'.cell? ⟨w.heap.size, 0, none⟩ = some (.bool false)
  c1 : w'.cell? ⟨w.heap.size, 1, none⟩ = some v
  c2 : w'.cell? ⟨w.heap.size, 2, none⟩ = some (.int .i64 x)
  nm : NatAt w' v m
  n1 : NatAt w' v1 1
  bl : Below w.heap.size w w'
theorem TnS.below {w w1 w2 : World} {v v1 : Value} {m : Nat} {x : Int} (h : TnS w w1 v m x v1) (hb : Below w1.heap.size w1 w2) : TnS w w2 v m x v1 :=
  ⟨cell_kept hb h.c0, cell_kept hb h.c1, cell_kept hb h.c2, h.nm.below hb, h.n1.below hb, below_chain h.bl hb⟩

set_option maxRecDepth 100000 in
set_option maxHeartbeats 1000000 in
theorem tens_walk (s : Value) (m : Nat) (x : Int) (w : World) (h : NatAt w s m) (hm0 : m ≠ 0) (hm : blen m ≤ 64) (hx1 : -1300 ≤ x) (hx2 : x ≤ 1100) :
    Calls Tryz.prog 36 #[.agg #[.bool false, s, .int .i64 x]] w fun e w' => ∃ t : Int, e = .returned (.int .i64 t) ∧ tenIs m x t ∧ -430 ≤ t ∧ t ≤ 430 ∧ Below w.heap.size w w' := by
  have H := Lib.hid h
  obtain ⟨A, c, rfl, hc, hr⟩ := h
  obtain ⟨n, hn⟩ : ∃ n, (toL m).length = n := ⟨_, rfl⟩
  have hnb : (toL m).length ≤ 8192 := by rw [toL_length]; omega
  rw [hn] at H ⊢
  have HBits := Lib.hid (fun (W : World) (h : NatAt W (.slice A n c) m) => show Calls Tryz.prog 75 #[.slice A n c] W fun e w' => e = .returned (.int .i64 (blen m : Int)) ∧ w' = W from by
    obtain ⟨A', c', e, hc', hr'⟩ := h
    injection e with e1 e2 e3
    subst e1; subst e2; subst e3
    have hbits := bits_walk A (toL m).length c (toL m) W rfl hr' (Wd_toL m) hc' (by omega)
    rw [vl_toL] at hbits
    refine hbits.mono ?_
    rintro e w' ⟨rfl, rfl⟩
    exact ⟨rfl, rfl⟩)
  have hbp := blen_pos hm0
  obtain ⟨bl, hbl⟩ : ∃ bl, blen m = bl := ⟨_, rfl⟩
  rw [hbl] at HBits hm hbp
  obtain ⟨t0, ht0⟩ : ∃ t0 : Int, ((x + (bl : Int) - 1) * 30103).tdiv 100000 = t0 := ⟨_, rfl⟩
  have htb : -430 ≤ t0 ∧ t0 ≤ 430 := by
    rw [← ht0]
    by_cases hs : 0 ≤ (x + (bl : Int) - 1) * 30103
    · rw [Int.tdiv_eq_ediv_of_nonneg hs]; omega
    · have e : (x + (bl : Int) - 1) * 30103 = -(-((x + (bl : Int) - 1) * 30103)) := by omega
      rw [e, Int.neg_tdiv, Int.tdiv_eq_ediv_of_nonneg (by omega)]; omega
  have p1 : IntKind.i64.wrap (x + (bl : Int)) = x + (bl : Int) := by rw [IntKind.wrap_i64]; omega
  have p2 : IntKind.i64.wrap (x + (bl : Int) - 1) = x + (bl : Int) - 1 := by rw [IntKind.wrap_i64]; omega
  have p3 : IntKind.i64.wrap ((x + (bl : Int) - 1) * 30103) = (x + (bl : Int) - 1) * 30103 := by rw [IntKind.wrap_i64]; omega
  have p4 : IntKind.i64.wrap t0 = t0 := by rw [IntKind.wrap_i64]; omega
  have hw := below_alloc' w (.cells #[.bool false, .slice A n c, .int .i64 x] 86)
  have c0 : (w.alloc (.cells #[.bool false, .slice A n c, .int .i64 x] 86)).cell? ⟨w.heap.size, 0, none⟩ = some (.bool false) := by simp
  have c1 : (w.alloc (.cells #[.bool false, .slice A n c, .int .i64 x] 86)).cell? ⟨w.heap.size, 1, none⟩ = some (.slice A n c) := by simp
  have c2 : (w.alloc (.cells #[.bool false, .slice A n c, .int .i64 x] 86)).cell? ⟨w.heap.size, 2, none⟩ = some (.int .i64 x) := by simp
  have HC := Lib.hid (show (w.alloc (.cells #[.bool false, .slice A n c, .int .i64 x] 86)).cell? ⟨w.heap.size, 0, none⟩ = some (.bool false) ∧ (w.alloc (.cells #[.bool false, .slice A n c, .int .i64 x] 86)).cell? ⟨w.heap.size, 1, none⟩ = some (.slice A n c) ∧ (w.alloc (.cells #[.bool false, .slice A n c, .int .i64 x] 86)).cell? ⟨w.heap.size, 2, none⟩ = some (.int .i64 x) ∧ NatAt (w.alloc (.cells #[.bool false, .slice A n c, .int .i64 x] 86)) (.slice A n c) m ∧ Below w.heap.size w (w.alloc (.cells #[.bool false, .slice A n c, .int .i64 x] 86)) from ⟨c0, c1, c2, H.out.below hw, hw⟩)
  have HM := Lib.hid (show blen m ≤ 64 ∧ m ≠ 0 ∧ -1300 ≤ x ∧ x ≤ 1100 from ⟨by omega, hm0, hx1, hx2⟩)
  have HTb := Lib.hid htb
  clear hr hc hn hnb hm hbp hx1 hx2 hw hm0 hbl htb H
  go_enter Tryz.func36, Tryz.ntmps36
  go_wp2_with fail
  obtain ⟨w1, hw1⟩ : ∃ w1, w.alloc (.cells #[.bool false, .slice A n c, .int .i64 x] 86) = w1 := ⟨_, rfl⟩
  rw [hw1] at HC c0 c1 c2 ⊢
  clear hw1
  go_quiet ((go_at_call 75; exact Calls.quiet_of_same (HBits.out _ (HC.out.2.2.2.1.below (below_dn (Below.refl _ _) _)))))
  have hbn := below_dn (Below.refl w1.heap.size w1) nq
  have HC2 := Lib.hid (show (w1.drewN nq).cell? ⟨w.heap.size, 0, none⟩ = some (.bool false) ∧ (w1.drewN nq).cell? ⟨w.heap.size, 1, none⟩ = some (.slice A n c) ∧ (w1.drewN nq).cell? ⟨w.heap.size, 2, none⟩ = some (.int .i64 x) ∧ NatAt (w1.drewN nq) (.slice A n c) m ∧ Below w.heap.size w (w1.drewN nq) from ⟨c0, c1, c2, HC.out.2.2.2.1.below hbn, below_chain HC.out.2.2.2.2 hbn⟩)
  clear c0 c1 c2 HC hbn p1 p2 p3 p4 HBits
  obtain ⟨w2, hw2⟩ : ∃ w2, w1.drewN nq = w2 := ⟨_, rfl⟩
  rw [hw2] at HC2 ⊢
  clear hw2
  go_wp2_with fail
  refine (word_walk 1 w2 (by rw [W64_num]; omega)).mono ?_
  rintro e w3 ⟨v1, rfl, hn1, hb3⟩
  have HS := Lib.hid (show TnS w w3 (.slice A n c) m x v1 from ⟨cell_kept hb3 HC2.out.1, cell_kept hb3 HC2.out.2.1, cell_kept hb3 HC2.out.2.2.1, HC2.out.2.2.2.1.below hb3, hn1, below_chain HC2.out.2.2.2.2 hb3⟩)
  clear hn1 hb3 HC2
  have HIn := Lib.hid (fun (W : World) (t : Int) (h : NatAt W (.slice A n c) m) (h1 : -1500 ≤ t) (h2 : t ≤ 1500) => in10_walk (.slice A n c) m x t W h HM.out.1 (by have := HM.out; omega) (by have := HM.out; omega) h1 h2)
  have HCm := Lib.hid (fun (W : World) (t : Int) (va vb : Value) (ha : NatAt W va (inA m x t)) (hb : NatAt W vb (inB x t)) (h1 : NatAt W v1 1) (h2 : -1500 ≤ t ∧ t ≤ 1500) => show Calls Tryz.prog 41 #[.agg #[va, vb], v1] W fun e w' => e = .returned (.int .i64 (cmpI (inB x t) (inA m x t))) ∧ Below W.heap.size W w' from by
    have := rcmp_walk va vb v1 (inA m x t) (inB x t) 1 W ha hb h1 (Nat.le_trans (inA_blen (q := t) HM.out.1 (by have := HM.out; omega) (by omega)).2.2 (by omega)) (Nat.le_trans (inB_blen (x := x) (q := t) (by have := HM.out; omega) (by omega)).2 (by omega)) (by decide)
    rw [Nat.one_mul] at this
    exact this)
  go_wp2_with fail
  go_loopw [3] (fun tv wr => ∃ t : Int, tv = .int .i64 t ∧ -430 ≤ t ∧ t ≤ 430 ∧ Hid (TnS w wr (.slice A n c) m x v1)) (fun tv _ => (intOf tv + 500).toNat)
  case atStart => exact ⟨t0, rfl, HTb.out.1, HTb.out.2, HS⟩
  case round =>
    obtain ⟨t, rfl, ht1, ht2, HS1⟩ := hrel
    have c0 := HS1.out.c0
    have c1 := HS1.out.c1
    have c2 := HS1.out.c2
    go_wp2_with fail
    refine (HIn.out wr t HS1.out.nm (by omega) (by omega)).mono ?_
    rintro e w4 ⟨va, vb, rfl, ha, hb, hb4⟩
    have HA4 := Lib.hid ha
    have HB4 := Lib.hid hb
    have HS4 := Lib.hid (HS1.out.below hb4)
    clear ha hb hb4 c0 c1 c2
    go_wp2_with fail
    refine (HCm.out w4 t va vb HA4.out HB4.out HS4.out.n1 ⟨by omega, by omega⟩).mono ?_
    rintro e w5 ⟨rfl, hb5⟩
    have HS5 := Lib.hid (HS4.out.below hb5)
    clear hb5 HA4 HB4 HS4 HS1
    by_cases hc : inA m x t < inB x t
    · rw [cmpI_gt hc]
      have htl : -400 < t := by
        refine Int.not_le.1 fun hh => ?_
        have := ten_lo (m := m) (x := x) HM.out.2.1 (by have := HM.out; omega) hh
        omega
      have p1 : IntKind.i64.wrap (t - 1) = t - 1 := by rw [IntKind.wrap_i64]; omega
      clear hc
      go_wp2_with fail
      go_roundw
      case rel => exact ⟨t - 1, rfl, by omega, by omega, HS5⟩
      case measure => simp [intOf]; omega
    · obtain ⟨cc, hcc⟩ : ∃ cc, cmpI (inB x t) (inA m x t) = cc := ⟨_, rfl⟩
      have hc0 : ¬ (0 : Int) < cc := by rw [← hcc, cmpI_pos]; exact hc
      have HLe := Lib.hid (show inB x t ≤ inA m x t by omega)
      rw [hcc]
      clear hc hcc HS HTb
      go_wp2_with fail
      have htl : t < 400 := by
        refine Int.not_le.1 fun hh => ?_
        have := ten_hi (m := m) (x := x) HM.out.1 (by have := HM.out; omega) hh
        have := HLe.out
        omega
      go_loopw [3] (fun tv wr => ∃ t : Int, tv = .int .i64 t ∧ -430 ≤ t ∧ t < 400 ∧ Hid (inB x t ≤ inA m x t) ∧ Hid (TnS w wr (.slice A n c) m x v1)) (fun tv _ => (500 - intOf tv).toNat)
      case atStart => exact ⟨t, rfl, ht1, htl, HLe, HS5⟩
      case round =>
        obtain ⟨u, rfl, hu1, hu2, HLu, HSu⟩ := hrel
        have c0 := HSu.out.c0
        have c1 := HSu.out.c1
        have c2 := HSu.out.c2
        have p1 : IntKind.i64.wrap (u + 1) = u + 1 := by rw [IntKind.wrap_i64]; omega
        clear hc0
        go_wp2_with fail
        refine (HIn.out wr (u + 1) HSu.out.nm (by omega) (by omega)).mono ?_
        rintro e w6 ⟨va, vb, rfl, ha, hb, hb6⟩
        have HA6 := Lib.hid ha
        have HB6 := Lib.hid hb
        have HS6 := Lib.hid (HSu.out.below hb6)
        clear ha hb hb6 c0 c1 c2
        go_wp2_with fail
        refine (HCm.out w6 (u + 1) va vb HA6.out HB6.out HS6.out.n1 ⟨by omega, by omega⟩).mono ?_
        rintro e w7 ⟨rfl, hb7⟩
        have HS7 := Lib.hid (HS6.out.below hb7)
        clear hb7 HA6 HB6 HS6 HSu
        by_cases hc : inB x (u + 1) ≤ inA m x (u + 1)
        · obtain ⟨cd, hcd⟩ : ∃ cd, cmpI (inB x (u + 1)) (inA m x (u + 1)) = cd := ⟨_, rfl⟩
          have hd0 : cd ≤ 0 := by
            have : ¬ (0 : Int) < cd := by rw [← hcd, cmpI_pos]; omega
            omega
          have hul : u + 1 < 400 := by
            refine Int.not_le.1 fun hh => ?_
            have := ten_hi (m := m) (x := x) HM.out.1 (by have := HM.out; omega) hh
            omega
          have HLn := Lib.hid hc
          rw [hcd]
          clear hc hcd
          go_wp2_with fail
          go_roundw
          case rel => exact ⟨u + 1, rfl, by omega, hul, HLn, HS7⟩
          case measure => simp [intOf]; omega
        · have hgt : inA m x (u + 1) < inB x (u + 1) := by omega
          rw [cmpI_gt hgt]
          have HT := Lib.hid (show tenIs m x u from ⟨HLu.out, hgt⟩)
          clear hc hgt
          go_wp2_with fail
          go_ret
          exact ⟨u, rfl, HT.out, hu1, by omega, HS7.out.bl⟩
end Go.Proofs.YtibjogbalmbeeaaGreatDoor

namespace Go.Proofs.YtibjogbalmbeeaaGreatDoor
open Go.RowKit

set_option maxRecDepth 100000 in
theorem minus_walk (f : Fm) (hf : f.ok) (b : Nat) (hb : b < 2 ^ (f.S + 1)) (w : World) :
    Calls Tryz.prog 17 #[.int .i64 (fmt f), .int .u64 (b : Int)] w fun e w' => e = .returned (.string (bs (if 2 ^ f.S ≤ b then [45] else []))) ∧ w' = w := by
  have hbit : ∀ S, (S = 31 ∨ S = 63) → b < 2 ^ (S + 1) → (bits BinOp.and IntKind.u64 ((b : Int) / ((2 ^ S : Nat) : Int)) 1 == 1) = decide (2 ^ S ≤ b) := fun S hS hb => by
    have e1 : (b : Int) / ((2 ^ S : Nat) : Int) = ((b / 2 ^ S : Nat) : Int) := by simp
    have hle : b / 2 ^ S < 2 := by rw [Nat.div_lt_iff_lt_mul (Nat.two_pow_pos _), Nat.mul_comm, ← Nat.pow_succ]; exact hb
    rw [e1]
    have h1 := bits_and_u64_nat (b / 2 ^ S) 1 (by omega) (by omega)
    rw [Nat.and_one_is_mod, show ((1 : Nat) : Int) = 1 from rfl] at h1
    rw [h1, Nat.mod_eq_of_lt hle]
    by_cases h : 2 ^ S ≤ b
    · have : b / 2 ^ S = 1 := by
        have := Nat.div_pos h (Nat.two_pow_pos _)
        omega
      rw [this, decide_eq_true h]; rfl
    · rw [Nat.div_eq_of_lt (by omega), decide_eq_false h]; rfl
  rcases hf with h | h <;> subst h
  · have h1 := hbit 31 (.inl rfl) hb
    have h2 : (bits BinOp.and IntKind.u64 ((b : Int) / 2147483648) 1 == 1) = decide (2147483648 ≤ b) := h1
    rw [fmt_S, show 2 ^ fmS.S = 2147483648 from rfl]
    clear hb hbit h1
    by_cases hc : 2147483648 ≤ b
    · rw [decide_eq_true hc] at h2
      rw [if_pos hc]
      clear hc
      go_enter Tryz.func17, Tryz.ntmps17
      go_wp2
      go_ret
      exact ⟨rfl, rfl⟩
    · rw [decide_eq_false hc] at h2
      rw [if_neg hc]
      clear hc
      go_enter Tryz.func17, Tryz.ntmps17
      go_wp2
      go_ret
      exact ⟨rfl, rfl⟩
  · have h1 := hbit 63 (.inr rfl) hb
    have h2 : (bits BinOp.and IntKind.u64 ((b : Int) / 9223372036854775808) 1 == 1) = decide (9223372036854775808 ≤ b) := h1
    rw [fmt_D, show 2 ^ fmD.S = 9223372036854775808 from rfl]
    clear hb hbit h1
    by_cases hc : 9223372036854775808 ≤ b
    · rw [decide_eq_true hc] at h2
      rw [if_pos hc]
      clear hc
      go_enter Tryz.func17, Tryz.ntmps17
      go_wp2
      go_ret
      exact ⟨rfl, rfl⟩
    · rw [decide_eq_false hc] at h2
      rw [if_neg hc]
      clear hc
      go_enter Tryz.func17, Tryz.ntmps17
      go_wp2
      go_ret
      exact ⟨rfl, rfl⟩

/-- The digits with a point behind the first. -/
def ptd (D : List UInt8) : List UInt8 := if D.length = 1 then D else D.take 1 ++ [46] ++ D.drop 1
theorem bs_take (D : List UInt8) (k : Nat) : (bs D).extract 0 k = bs (D.take k) := by rw [bs_ext]; simp
theorem bs_drop (D : List UInt8) (k : Nat) : (bs D).extract k D.length = bs (D.drop k) := by
  rw [bs_ext, List.take_of_length_le (by simp)]

set_option maxRecDepth 100000 in
theorem pointed_walk (D : List UInt8) (h1 : 1 ≤ D.length) (h2 : D.length ≤ 100000) (w : World) :
    Calls Tryz.prog 33 #[.string (bs D)] w fun e w' => e = .returned (.string (bs (ptd D))) ∧ Below w.heap.size w w' := by
  have hsz := bs_size D
  by_cases hc : D.length = 1
  · have hb : ((D.length : Int) == 1) = true := by rw [beq_iff_eq]; omega
    have HP := Lib.hid (show ptd D = D by unfold ptd; rw [if_pos hc])
    clear hc
    go_enter Tryz.func33, Tryz.ntmps33
    go_wp2
    go_ret
    exact ⟨by rw [HP.out]; rfl, Below.refl _ _⟩
  · have HP := Lib.hid (show (bs D).extract 0 1 ++ bs [46] ++ (bs D).extract 1 (bs D).size = bs (ptd D) by unfold ptd; rw [if_neg hc, bs_size, bs_take, bs_drop, bs_append, bs_append])
    have hl1 : ((bs D).extract 0 1).size ≤ 100000 := by rw [bs_take, bs_size, List.length_take]; omega
    have hl2 : ((bs D).extract 1 (bs D).size).size ≤ 100000 := by rw [bs_size, bs_drop, bs_size, List.length_drop]; omega
    have hl3 : ((bs D).extract 0 1 ++ (⟨#[46]⟩ : ByteArray)).size ≤ 100001 := by rw [ByteArray.size_append]; have : (⟨#[46]⟩ : ByteArray).size = 1 := rfl; omega
    have hn : (bs D).size = D.length := hsz
    obtain ⟨S, hS⟩ : ∃ S, bs D = S := ⟨_, rfl⟩
    rw [hS] at HP hl1 hl2 hl3 hn ⊢
    have r1 : (1 : Int) ≤ (S.size : Int) := by omega
    have hb : ((S.size : Int) == 1) = false := by rw [beq_eq_false_iff_ne]; omega
    clear hc hsz hS hn h1 h2
    go_enter Tryz.func33, Tryz.ntmps33
    go_wp2_with fail
    go_quiet (fail)
    go_wp2
    go_ret
    exact ⟨by rw [← HP.out]; rfl, below_dn (Below.refl _ _) _⟩

theorem repeat_zero (c : Nat) : Lib.repeatL [48] c = List.replicate c 48 := by
  induction c with
  | zero => rfl
  | succ c ih => rw [Lib.repeatL, ih]; rfl
/-- The layout of D * 10^q. -/
def layS (D : List UInt8) (q : Int) : List UInt8 :=
  if (D.length : Int) ≤ D.length + q ∧ (D.length : Int) + q ≤ 17 then D ++ List.replicate q.toNat 48
  else if 1 ≤ (D.length : Int) + q ∧ (D.length : Int) + q ≤ 17 then D.take ((D.length : Int) + q).toNat ++ [46] ++ D.drop ((D.length : Int) + q).toNat
  else if -3 ≤ (D.length : Int) + q ∧ (D.length : Int) + q ≤ 0 then [48, 46] ++ List.replicate (-((D.length : Int) + q)).toNat 48 ++ D
  else ptd D ++ [101] ++ Lib.itoa ((D.length : Int) + q - 1)

set_option maxRecDepth 100000 in
set_option maxHeartbeats 1000000 in
theorem lay_walk (D : List UInt8) (q : Int) (h1 : 1 ≤ D.length) (h2 : D.length ≤ 1000) (q1 : -2000 ≤ q) (q2 : q ≤ 2000) (w : World) (h10 : Tab10 w) :
    Calls Tryz.prog 18 #[.string (bs D), .int .i64 q] w fun e w' => e = .returned (.string (bs (layS D q))) ∧ Below w.heap.size w w' := by
  have hsz := bs_size D
  have HPt := Lib.hid (fun W => pointed_walk D h1 (by omega) W)
  have H10 := Lib.hid h10
  obtain ⟨n, hn⟩ : ∃ n, D.length = n := ⟨_, rfl⟩
  obtain ⟨k, hk⟩ : ∃ k : Int, (n : Int) + q = k := ⟨_, rfl⟩
  have hlay : layS D q = if (n : Int) ≤ k ∧ k ≤ 17 then D ++ List.replicate q.toNat 48 else if 1 ≤ k ∧ k ≤ 17 then D.take k.toNat ++ [46] ++ D.drop k.toNat else if -3 ≤ k ∧ k ≤ 0 then [48, 46] ++ List.replicate (-k).toNat 48 ++ D else ptd D ++ [101] ++ Lib.itoa (k - 1) := by
    unfold layS; rw [hn, hk]
  have p1 : IntKind.i64.wrap ((n : Int) + q) = k := by rw [IntKind.wrap_i64]; omega
  have p2 : IntKind.i64.wrap (k - (n : Int)) = ((q.toNat : Nat) : Int) ∨ q < 0 := by
    by_cases hq : q < 0
    · exact .inr hq
    · exact .inl (by rw [IntKind.wrap_i64]; omega)
  have hln : (bs D).size = n := by rw [hsz, hn]
  rw [hn] at h1 h2
  have hpl : (bs (ptd D)).size ≤ 2000 := by
    rw [bs_size]; unfold ptd
    split
    · omega
    · simp only [List.length_append, List.length_take, List.length_drop, List.length_cons, List.length_nil]; omega
  by_cases cA : (n : Int) ≤ k ∧ k ≤ 17
  · obtain ⟨a1, a2⟩ := cA
    rw [if_pos ⟨a1, a2⟩] at hlay
    obtain ⟨c, hc⟩ : ∃ c, q.toNat = c := ⟨_, rfl⟩
    have p3 : IntKind.i64.wrap (k - (n : Int)) = (c : Int) := by rw [IntKind.wrap_i64]; omega
    have HR := Lib.hid (fun W => Tryz.strings_Repeat ⟨#[48]⟩ c W (by omega) (by rw [show (⟨#[48]⟩ : ByteArray).size = 1 from rfl]; omega))
    rw [show (⟨#[48]⟩ : ByteArray).data.toList = [48] from rfl, repeat_zero] at HR
    have HP := Lib.hid (show bs D ++ ⟨(List.replicate c 48).toArray⟩ = bs (layS D q) by rw [hlay, hc, ← bs_append]; rfl)
    have hl4 : (⟨(List.replicate c (48 : UInt8)).toArray⟩ : ByteArray).size ≤ 4000 := by
      have : (⟨(List.replicate c (48 : UInt8)).toArray⟩ : ByteArray).size = c := by show (List.replicate c (48 : UInt8)).toArray.size = c; simp
      omega
    obtain ⟨S, hS⟩ : ∃ S, bs D = S := ⟨_, rfl⟩
    obtain ⟨Z, hZ⟩ : ∃ Z : ByteArray, ⟨(List.replicate c (48 : UInt8)).toArray⟩ = Z := ⟨_, rfl⟩
    rw [hS] at HP hln ⊢
    rw [hZ] at HP HR hl4
    clear hlay hsz hpl HPt p2 hS hZ hk h1 hn hc H10
    go_enter Tryz.func18, Tryz.ntmps18
    go_wp2_with fail
    refine (HR.out _).mono ?_
    rintro e w1 ⟨rfl, hb1⟩
    go_wp2
    go_ret
    exact ⟨by rw [← HP.out]; rfl, hb1⟩
  rw [if_neg cA] at hlay
  by_cases cB : 1 ≤ k ∧ k ≤ 17
  · obtain ⟨a1, a2⟩ := cB
    rw [if_pos ⟨a1, a2⟩] at hlay
    have a3 : ¬ (n : Int) ≤ k := fun h => cA ⟨h, a2⟩
    have a3' : decide ((n : Int) ≤ k) = false := decide_eq_false a3
    obtain ⟨kk, rfl⟩ := Int.eq_ofNat_of_zero_le (show 0 ≤ k by omega)
    rw [Int.toNat_natCast] at hlay
    have HP := Lib.hid (show (bs D).extract 0 kk ++ bs [46] ++ (bs D).extract kk (bs D).size = bs (layS D q) by rw [hlay, bs_size, bs_take, bs_drop, bs_append, bs_append])
    have hl1 : ((bs D).extract 0 kk).size ≤ 4000 := by rw [bs_take, bs_size, List.length_take]; omega
    have hl2 : ((bs D).extract kk (bs D).size).size ≤ 4000 := by rw [bs_size, bs_drop, bs_size, List.length_drop]; omega
    have hl3 : ((bs D).extract 0 kk ++ (⟨#[46]⟩ : ByteArray)).size ≤ 4001 := by rw [ByteArray.size_append]; have : (⟨#[46]⟩ : ByteArray).size = 1 := rfl; omega
    obtain ⟨S, hS⟩ : ∃ S, bs D = S := ⟨_, rfl⟩
    rw [hS] at HP hln hl1 hl2 hl3 ⊢
    have hns : n = S.size := hln.symm
    subst hns
    have r1 : (kk : Int) ≤ (S.size : Int) := by omega
    have r2 : (0 : Int) ≤ (kk : Int) := by omega
    have r3 : ¬ (S.size : Int) ≤ (kk : Int) := a3
    clear hlay hsz hpl HPt p2 hS cA hk h1 hn H10 hln
    go_enter Tryz.func18, Tryz.ntmps18
    go_wp2_with fail
    go_quiet (fail)
    go_wp2
    go_ret
    exact ⟨by rw [← HP.out]; rfl, below_dn (Below.refl _ _) _⟩
  rw [if_neg cB] at hlay
  by_cases cC : -3 ≤ k ∧ k ≤ 0
  · obtain ⟨a1, a2⟩ := cC
    rw [if_pos ⟨a1, a2⟩] at hlay
    have a3 : ¬ (n : Int) ≤ k := by omega
    have a3' : decide ((n : Int) ≤ k) = false := decide_eq_false a3
    have a4 : ¬ (1 : Int) ≤ k := by omega
    have a4' : decide ((1 : Int) ≤ k) = false := decide_eq_false a4
    obtain ⟨c, hc⟩ : ∃ c, (-k).toNat = c := ⟨_, rfl⟩
    have p3 : IntKind.i64.wrap (-k) = (c : Int) := by rw [IntKind.wrap_i64]; omega
    have HR := Lib.hid (fun W => Tryz.strings_Repeat ⟨#[48]⟩ c W (by omega) (by rw [show (⟨#[48]⟩ : ByteArray).size = 1 from rfl]; omega))
    rw [show (⟨#[48]⟩ : ByteArray).data.toList = [48] from rfl, repeat_zero] at HR
    have HP := Lib.hid (show bs [48, 46] ++ ⟨(List.replicate c 48).toArray⟩ ++ bs D = bs (layS D q) by rw [hlay, hc, ← bs_append, ← bs_append]; rfl)
    have hZs : (⟨(List.replicate c (48 : UInt8)).toArray⟩ : ByteArray).size = c := by show (List.replicate c (48 : UInt8)).toArray.size = c; simp
    obtain ⟨S, hS⟩ : ∃ S, bs D = S := ⟨_, rfl⟩
    obtain ⟨Z, hZ⟩ : ∃ Z : ByteArray, ⟨(List.replicate c (48 : UInt8)).toArray⟩ = Z := ⟨_, rfl⟩
    rw [hS] at HP hln ⊢
    rw [hZ] at HP HR hZs
    have hl4 : Z.size ≤ 4000 := by omega
    have hl5 : ((⟨#[48, 46]⟩ : ByteArray) ++ Z).size ≤ 4010 := by rw [ByteArray.size_append]; have : (⟨#[48, 46]⟩ : ByteArray).size = 2 := rfl; omega
    clear hlay hsz hpl HPt p2 hS hZ cA cB hk h1 hn hc H10 hZs
    go_enter Tryz.func18, Tryz.ntmps18
    go_wp2_with fail
    refine (HR.out _).mono ?_
    rintro e w1 ⟨rfl, hb1⟩
    go_wp2
    go_ret
    exact ⟨by rw [← HP.out]; rfl, hb1⟩
  rw [if_neg cC] at hlay
  have HPD := Lib.hid (show bs (ptd D) ++ bs [101] ++ bs (Lib.itoa (k - 1)) = bs (layS D q) by rw [hlay, bs_append, bs_append])
  have hl3 : (bs (ptd D) ++ (⟨#[101]⟩ : ByteArray)).size ≤ 2001 := by rw [ByteArray.size_append]; have : (⟨#[101]⟩ : ByteArray).size = 1 := rfl; omega
  have p4 : IntKind.i64.wrap (k - 1) = k - 1 := by rw [IntKind.wrap_i64]; omega
  obtain ⟨S, hS⟩ : ∃ S, bs D = S := ⟨_, rfl⟩
  obtain ⟨T, hT⟩ : ∃ T, bs (ptd D) = T := ⟨_, rfl⟩
  rw [hS] at HPt hln ⊢
  rw [hT] at HPt HPD hpl hl3
  by_cases c17 : k ≤ 17
  · have a1 : ¬ (n : Int) ≤ k := fun h => cA ⟨h, c17⟩
    have a1' : decide ((n : Int) ≤ k) = false := decide_eq_false a1
    have a2 : ¬ (1 : Int) ≤ k := fun h => cB ⟨h, c17⟩
    have a2' : decide ((1 : Int) ≤ k) = false := decide_eq_false a2
    have a3 : ¬ (-3 : Int) ≤ k := fun h => cC ⟨h, by omega⟩
    have a3' : decide ((-3 : Int) ≤ k) = false := decide_eq_false a3
    have hkr : -2000 ≤ k := by omega
    clear hlay hsz p2 hS hT cA cB cC hk hn c17 h1
    go_enter Tryz.func18, Tryz.ntmps18
    go_wp2_with fail
    refine (HPt.out w).mono ?_
    rintro e w1 ⟨rfl, hb1⟩
    have HW1 := Lib.hid hb1
    clear hb1 HPt
    go_wp2_with fail
    refine (itoa_walk (k - 1) (by omega) (by omega) w1 (H10.out.below HW1.out)).mono ?_
    rintro e w2 ⟨rfl, hb2⟩
    have hl5 : (bs (Lib.itoa (k - 1))).size ≤ 20 := by rw [bs_size]; exact itoa_len _ (by omega) (by omega)
    obtain ⟨I, hI⟩ : ∃ I, bs (Lib.itoa (k - 1)) = I := ⟨_, rfl⟩
    rw [hI] at HPD hl5 ⊢
    clear hI
    go_wp2
    go_ret
    exact ⟨by rw [← HPD.out]; rfl, below_chain HW1.out hb2⟩
  · have a0 : decide (k ≤ 17) = false := decide_eq_false c17
    have a2 : (1 : Int) ≤ k := by omega
    have a3 : (-3 : Int) ≤ k := by omega
    have a4 : ¬ k ≤ 0 := by omega
    have a4' : decide (k ≤ 0) = false := decide_eq_false a4
    have hkr : k ≤ 4000 := by omega
    by_cases cn : (n : Int) ≤ k
    · clear hlay hsz p2 hS hT cA cB cC hk hn h1
      go_enter Tryz.func18, Tryz.ntmps18
      go_wp2_with fail
      refine (HPt.out w).mono ?_
      rintro e w1 ⟨rfl, hb1⟩
      have HW1 := Lib.hid hb1
      clear hb1 HPt
      go_wp2_with fail
      refine (itoa_walk (k - 1) (by omega) (by omega) w1 (H10.out.below HW1.out)).mono ?_
      rintro e w2 ⟨rfl, hb2⟩
      have hl5 : (bs (Lib.itoa (k - 1))).size ≤ 20 := by rw [bs_size]; exact itoa_len _ (by omega) (by omega)
      obtain ⟨I, hI⟩ : ∃ I, bs (Lib.itoa (k - 1)) = I := ⟨_, rfl⟩
      rw [hI] at HPD hl5 ⊢
      clear hI
      go_wp2
      go_ret
      exact ⟨by rw [← HPD.out]; rfl, below_chain HW1.out hb2⟩
    · have cn' : decide ((n : Int) ≤ k) = false := decide_eq_false cn
      clear hlay hsz p2 hS hT cA cB cC hk hn h1
      go_enter Tryz.func18, Tryz.ntmps18
      go_wp2_with fail
      refine (HPt.out w).mono ?_
      rintro e w1 ⟨rfl, hb1⟩
      have HW1 := Lib.hid hb1
      clear hb1 HPt
      go_wp2_with fail
      refine (itoa_walk (k - 1) (by omega) (by omega) w1 (H10.out.below HW1.out)).mono ?_
      rintro e w2 ⟨rfl, hb2⟩
      have hl5 : (bs (Lib.itoa (k - 1))).size ≤ 20 := by rw [bs_size]; exact itoa_len _ (by omega) (by omega)
      obtain ⟨I, hI⟩ : ∃ I, bs (Lib.itoa (k - 1)) = I := ⟨_, rfl⟩
      rw [hI] at HPD hl5 ⊢
      clear hI
      go_wp2
      go_ret
      exact ⟨by rw [← HPD.out]; rfl, below_chain HW1.out hb2⟩

/-- The digits without noughts at their end. -/
def tl0 (D : List UInt8) : List UInt8 := Lib.trimRightB D 48
set_option maxRecDepth 100000 in
theorem stripped_walk (v : Value) (d m : Nat) (q : Int) (w : World) (h : NatAt w v d) (hd : d < 10 ^ m) (hm : m ≤ 1500) (hm1 : 1 ≤ m) (q1 : -3000 ≤ q) (q2 : q ≤ 3000) :
    Calls Tryz.prog 45 #[v, .int .i64 q] w fun e w' => e = .returned (.tuple #[.string (bs (tl0 (Lib.decDigits d))), .int .i64 (q + ((Lib.decDigits d).length : Int) - ((tl0 (Lib.decDigits d)).length : Int))]) ∧ Below w.heap.size w w' := by
  have HT := Lib.hid (text_walk v d m w h hd hm hm1)
  have hl := decDigits_len hd hm1
  obtain ⟨D, hD⟩ : ∃ D, Lib.decDigits d = D := ⟨_, rfl⟩
  rw [hD] at HT hl ⊢
  have hs : (⟨D.toArray⟩ : ByteArray).size = D.length := bs_size D
  have HTr := Lib.hid (fun W => Tryz.strings_TrimRight_one ⟨D.toArray⟩ 48 (by decide) W (by rw [hs]; omega))
  rw [show Lib.trimRightB (⟨D.toArray⟩ : ByteArray).data.toList 48 = tl0 D from rfl] at HTr
  have hle : (tl0 D).length ≤ D.length := by
    unfold tl0 Lib.trimRightB
    rw [List.length_reverse]
    have := (List.dropWhile_sublist (l := D.reverse) (· == 48)).length_le
    rwa [List.length_reverse] at this
  have hs2 : (⟨(tl0 D).toArray⟩ : ByteArray).size = (tl0 D).length := bs_size _
  have p1 : IntKind.i64.wrap (q + (D.length : Int)) = q + (D.length : Int) := by rw [IntKind.wrap_i64]; omega
  have p2 : IntKind.i64.wrap (q + (D.length : Int) - ((tl0 D).length : Int)) = q + (D.length : Int) - ((tl0 D).length : Int) := by rw [IntKind.wrap_i64]; omega
  obtain ⟨S, hS⟩ : ∃ S : ByteArray, ⟨D.toArray⟩ = S := ⟨_, rfl⟩
  obtain ⟨T, hTT⟩ : ∃ T : ByteArray, ⟨(tl0 D).toArray⟩ = T := ⟨_, rfl⟩
  rw [hS] at HT HTr hs
  rw [hTT] at HTr hs2
  have HE := Lib.hid (show bs (tl0 D) = T from hTT)
  obtain ⟨n, hn⟩ : ∃ n, D.length = n := ⟨_, rfl⟩
  obtain ⟨n2, hn2⟩ : ∃ n, (tl0 D).length = n := ⟨_, rfl⟩
  rw [hn] at hs p1 p2 ⊢
  rw [hn2] at hs2 p2 ⊢
  rw [HE.out]
  clear h hd hl hle hS hTT hD hn hn2
  go_enter Tryz.func45, Tryz.ntmps45
  go_wp2_with fail
  refine HT.out.mono ?_
  rintro e w1 ⟨rfl, hb1⟩
  have HW1 := Lib.hid hb1
  clear hb1 HT
  go_wp2_with fail
  refine (HTr.out w1).mono ?_
  rintro e w2 ⟨rfl, hw2⟩
  have hw2' := hw2.symm
  subst hw2'
  clear hw2
  go_wp2
  go_ret2
  exact ⟨rfl, HW1.out⟩
end Go.Proofs.YtibjogbalmbeeaaGreatDoor

namespace Go.Proofs.YtibjogbalmbeeaaGreatDoor
open Go.RowKit

theorem odd_le {m n u e : Nat} (h : m % 2 = 1) (he : m * 2 ^ u = n * 2 ^ e) : m ≤ n := by
  have hp := Nat.two_pow_pos e
  by_cases hue : e ≤ u
  · obtain ⟨k, rfl⟩ : ∃ k, u = e + k := ⟨u - e, by omega⟩
    rw [Nat.pow_add, Nat.mul_comm (2 ^ e), ← Nat.mul_assoc] at he
    have h1 : m * 2 ^ k = n := Nat.eq_of_mul_eq_mul_right hp he
    rw [← h1]; exact Nat.le_mul_of_pos_right _ (Nat.two_pow_pos k)
  · exfalso
    obtain ⟨k, rfl⟩ : ∃ k, e = u + (k + 1) := ⟨e - u - 1, by omega⟩
    rw [Nat.pow_add, Nat.mul_comm (2 ^ u), ← Nat.mul_assoc] at he
    have h1 : m = n * 2 ^ (k + 1) := Nat.eq_of_mul_eq_mul_right (Nat.two_pow_pos u) he
    rw [h1, Nat.pow_succ, ← Nat.mul_assoc, Nat.mul_mod_left] at h
    omega
theorem exp_top {f : Fm} (hf : f.ok) {m u N : Nat} (hm : m % 2 = 1) (hN : m * 2 ^ u = N) (hNl : N ≤ 2 * vP f f.inf) : f.L + (u : Int) ≤ 1026 := by
  obtain ⟨_, _, _, K, hK, hK2⟩ := hf.facts
  have h1 : 1 * 2 ^ u ≤ m * 2 ^ u := Nat.mul_le_mul_right _ (by omega)
  rw [Nat.one_mul, hN] at h1
  rw [hK, ← Nat.pow_succ'] at hNl
  have h2 : 2 ^ u < 2 ^ (K + 1 + 1) := by rw [Nat.pow_succ 2 (K + 1)]; have := Nat.two_pow_pos (K + 1); omega
  rw [Nat.pow_lt_pow_iff_right (by omega)] at h2
  omega
theorem md_top (f : Fm) {z : Nat} (hz : z < f.inf) : 2 * vP f z ≤ 2 * vP f f.inf ∧ md f z ≤ 2 * vP f f.inf ∧ md f (z - 1) ≤ 2 * vP f f.inf := by
  have h1 := vP_mono f (show z ≤ f.inf by omega)
  have h2 := vP_mono f (show z + 1 ≤ f.inf by omega)
  have h3 := vP_mono f (show z - 1 ≤ f.inf by omega)
  have h4 := vP_mono f (show z - 1 + 1 ≤ f.inf by omega)
  unfold md
  omega
theorem inf_S : fmS.inf = 2139095040 := by decide
theorem inf_D : fmD.inf = 9218868437227405312 := by decide
theorem value_any (f : Fm) (hf : f.ok) (z : Nat) (h0 : z ≠ 0) (hz : z < f.inf) (w : World) (ht : Tab64 w) :
    Calls Tryz.prog 34 #[.int .i64 (fmt f), .int .u64 (z : Int)] w fun e w' => ∃ (m u : Nat) (s : Value), e = .returned (.tuple #[.agg #[.bool false, s, .int .i64 (f.L + (u : Int))], .int .i64 0]) ∧ NatAt w' s m ∧ m ≠ 0 ∧ m * 2 ^ (u + 1) = 2 * vP f z ∧ blen m ≤ 64 ∧ f.L + (u : Int) ≤ 1026 ∧ Below w.heap.size w w' := by
  have hP := (Fm.ok.facts hf).1
  have hPl : f.P ≤ 53 := by rcases hf with h | h <;> subst h <;> decide
  have conv : ∀ m u : Nat, m % 2 = 1 → m * 2 ^ u = vP f z → m ≠ 0 ∧ m * 2 ^ (u + 1) = 2 * vP f z ∧ blen m ≤ 64 ∧ f.L + (u : Int) ≤ 1026 := fun m u ho hv => by
    have hle : m ≤ mnt f z := odd_le ho (by rw [hv, vP_mnt])
    have hlt := mnt_lt hP z
    refine ⟨by intro e; rw [e] at ho; omega, by rw [Nat.pow_succ, ← Nat.mul_assoc, hv]; omega, ?_, ?_⟩
    · exact Nat.le_trans (blen_le.2 (Nat.lt_of_le_of_lt hle hlt)) (by omega)
    · exact exp_top hf ho hv (by have := (md_top f hz).1; omega)
  rcases hf with h | h <;> subst h
  · rw [inf_S] at hz
    have hm : z % 2147483648 = z := Nat.mod_eq_of_lt (by omega)
    refine (value_S z (by omega) (by rw [hm]; exact hz) (by rw [hm]; exact h0) w ht).mono ?_
    rintro e w' ⟨m, u, s, rfl, hn, ho, hv, _, hb⟩
    rw [hm] at hv
    obtain ⟨c1, c2, c3, c4⟩ := conv m u ho hv
    exact ⟨m, u, s, by rw [decide_eq_false (show ¬ 2147483648 ≤ z by omega)]; rfl, hn, c1, c2, c3, c4, hb⟩
  · rw [inf_D] at hz
    have hm : z % 9223372036854775808 = z := Nat.mod_eq_of_lt (by omega)
    refine (value_D z (by omega) (by rw [hm]; exact hz) (by rw [hm]; exact h0) w ht).mono ?_
    rintro e w' ⟨m, u, s, rfl, hn, ho, hv, _, hb⟩
    rw [hm] at hv
    obtain ⟨c1, c2, c3, c4⟩ := conv m u ho hv
    exact ⟨m, u, s, by rw [decide_eq_false (show ¬ 9223372036854775808 ≤ z by omega)]; rfl, hn, c1, c2, c3, c4, hb⟩
theorem cell_any (f : Fm) (hf : f.ok) (z : Nat) (h0 : z ≠ 0) (hz : z < f.inf) (w : World) (ht : Tab64 w) :
    Calls Tryz.prog 35 #[.int .i64 (fmt f), .int .u64 (z : Int)] w fun e w' => ∃ (m u m' u' : Nat) (s s' : Value), e = .returned (.tuple #[.agg #[.bool false, s, .int .i64 (f.L - 1 + (u : Int)), .bool false, s', .int .i64 (f.L - 1 + (u' : Int))], .bool (z % 2 == 0), .int .i64 0]) ∧ NatAt w' s m ∧ NatAt w' s' m' ∧ m * 2 ^ u = md f (z - 1) ∧ m' * 2 ^ u' = md f z ∧ blen m ≤ 64 ∧ blen m' ≤ 64 ∧ f.L - 1 + (u : Int) ≤ 1026 ∧ f.L - 1 + (u' : Int) ≤ 1026 ∧ Below w.heap.size w w' := by
  have hP := (Fm.ok.facts hf).1
  have hPl : f.P ≤ 53 := by rcases hf with h | h <;> subst h <;> decide
  have conv : ∀ y m u : Nat, md f y ≤ 2 * vP f f.inf → m % 2 = 1 → m * 2 ^ u = md f y → blen m ≤ 64 ∧ f.L - 1 + (u : Int) ≤ 1026 := fun y m u hy ho hv => by
    have hle : m ≤ 2 * mnt f y + 1 := odd_le ho (by rw [hv, md_mnt])
    have hlt := mnt_lt hP y
    refine ⟨?_, ?_⟩
    · have h1 : blen m ≤ f.P + 1 := blen_le.2 (by rw [Nat.pow_succ]; omega)
      omega
    · have := exp_top hf ho hv hy; omega
  obtain ⟨_, t2, t3⟩ := md_top f hz
  rcases hf with h | h <;> subst h
  · rw [inf_S] at hz
    refine (cell_S z hz h0 w ht).mono ?_
    rintro e w' ⟨m, u, m', u', s, s', rfl, n1, n2, o1, o2, v1, v2, _, _, hb⟩
    obtain ⟨c1, c2⟩ := conv _ m u t3 o1 v1
    obtain ⟨c3, c4⟩ := conv _ m' u' t2 o2 v2
    exact ⟨m, u, m', u', s, s', rfl, n1, n2, v1, v2, c1, c3, c2, c4, hb⟩
  · rw [inf_D] at hz
    refine (cell_D z hz h0 w ht).mono ?_
    rintro e w' ⟨m, u, m', u', s, s', rfl, n1, n2, o1, o2, v1, v2, _, _, hb⟩
    obtain ⟨c1, c2⟩ := conv _ m u t3 o1 v1
    obtain ⟨c3, c4⟩ := conv _ m' u' t2 o2 v2
    exact ⟨m, u, m', u', s, s', rfl, n1, n2, v1, v2, c1, c3, c2, c4, hb⟩

/-- What stands in memory while the shortest decimal is sought: the number and the cell's ends. -/
structure ShS (w w' : World) (gv gc : Nat) (s sl sh : Value) (m ml mh : Nat) (x xl xh : Int) : Prop where
  v0 : w'.cell? ⟨gv, 0, none⟩ = some (.bool false)
  v1 : w'.cell? ⟨gv, 1, none⟩ = some s
  v2 : w'.cell? ⟨gv, 2, none⟩ = some (.int .i64 x)
  l0 : w'.cell? ⟨gc, 0, none⟩ = some (.bool false)
  l1 : w'.cell? ⟨gc, 1, none⟩ = some sl
  l2 : w'.cell? ⟨gc, 2, none⟩ = some (.int .i64 xl)
  h0 : w'.cell? ⟨gc, 3, none⟩ = some (.bool false)
  h1 : w'.cell? ⟨gc, 4, none⟩ = some sh
  h2 : w'.cell? ⟨gc, 5, none⟩ = some (.int .i64 xh)
  nm : NatAt w' s m
  nl : NatAt w' sl ml
  nh : NatAt w' sh mh
  bl : Below w.heap.size w w'
theorem ShS.below {w w1 w2 : World} {gv gc : Nat} {s sl sh : Value} {m ml mh : Nat} {x xl xh : Int} (h : ShS w w1 gv gc s sl sh m ml mh x xl xh) (hb : Below w1.heap.size w1 w2) : ShS w w2 gv gc s sl sh m ml mh x xl xh :=
  ⟨cell_kept hb h.v0, cell_kept hb h.v1, cell_kept hb h.v2, cell_kept hb h.l0, cell_kept hb h.l1, cell_kept hb h.l2, cell_kept hb h.h0, cell_kept hb h.h1, cell_kept hb h.h2, h.nm.below hb, h.nl.below hb, h.nh.below hb, below_chain h.bl hb⟩
/-- .. and the ratio, its whole part, what is left, the next one. -/
structure ShR (w w' : World) (gv gc : Nat) (s sl sh : Value) (m ml mh : Nat) (x xl xh : Int) (gr : Nat) (va vb lo le hi : Value) (A B : Nat) : Prop where
  b : ShS w w' gv gc s sl sh m ml mh x xl xh
  r0 : w'.cell? ⟨gr, 0, none⟩ = some va
  r1 : w'.cell? ⟨gr, 1, none⟩ = some vb
  na : NatAt w' va A
  nb : NatAt w' vb B
  no : NatAt w' lo (A / B)
  ne : NatAt w' le (A % B)
  nn : NatAt w' hi (A / B + 1)
theorem ShR.below {w w1 w2 : World} {gv gc : Nat} {s sl sh : Value} {m ml mh : Nat} {x xl xh : Int} {gr : Nat} {va vb lo le hi : Value} {A B : Nat} (h : ShR w w1 gv gc s sl sh m ml mh x xl xh gr va vb lo le hi A B) (hb : Below w1.heap.size w1 w2) : ShR w w2 gv gc s sl sh m ml mh x xl xh gr va vb lo le hi A B :=
  ⟨h.b.below hb, cell_kept hb h.r0, cell_kept hb h.r1, h.na.below hb, h.nb.below hb, h.no.below hb, h.ne.below hb, h.nn.below hb⟩

/-- Ratios made ahead of a call and written behind it. -/
theorem zz1 {W w' : World} {K : Nat} (hK : W.heap.size = K) (h : Below (W.alloc (.cells #[.slice none 0 0, .slice none 0 0] 95)).heap.size (W.alloc (.cells #[.slice none 0 0, .slice none 0 0] 95)) w') : Box2 w' K (.slice none 0 0) (.slice none 0 0) ∧ K + 1 ≤ w'.heap.size := by
  subst hK
  have hB : Box2 (W.alloc (.cells #[.slice none 0 0, .slice none 0 0] 95)) W.heap.size (.slice none 0 0) (.slice none 0 0) := ⟨by simp, by simp, by simp, by simp, by simp⟩
  exact ⟨hB.below h, by simpa using h.size⟩
theorem zzA (W : World) : Box2 ((W.alloc (.cells #[.slice none 0 0, .slice none 0 0] 95)).alloc (.cells #[.slice none 0 0, .slice none 0 0] 95)) W.heap.size (.slice none 0 0) (.slice none 0 0) :=
  Box2.below (W := W.alloc (.cells #[.slice none 0 0, .slice none 0 0] 95)) ⟨by simp, by simp, by simp, by simp, by simp⟩ (below_alloc' _ _)
theorem zzB (W : World) : Box2 ((W.alloc (.cells #[.slice none 0 0, .slice none 0 0] 95)).alloc (.cells #[.slice none 0 0, .slice none 0 0] 95)) (W.heap.size + 1) (.slice none 0 0) (.slice none 0 0) := by
  have h : Box2 ((W.alloc (.cells #[.slice none 0 0, .slice none 0 0] 95)).alloc (.cells #[.slice none 0 0, .slice none 0 0] 95)) (W.alloc (.cells #[.slice none 0 0, .slice none 0 0] 95)).heap.size (.slice none 0 0) (.slice none 0 0) := ⟨by simp, by simp, by simp, by simp, by simp⟩
  simpa using h
theorem zz2 {W w' : World} {K : Nat} (hK : W.heap.size = K) (h : Below ((W.alloc (.cells #[.slice none 0 0, .slice none 0 0] 95)).alloc (.cells #[.slice none 0 0, .slice none 0 0] 95)).heap.size ((W.alloc (.cells #[.slice none 0 0, .slice none 0 0] 95)).alloc (.cells #[.slice none 0 0, .slice none 0 0] 95)) w') : Box2 w' K (.slice none 0 0) (.slice none 0 0) ∧ Box2 w' (K + 1) (.slice none 0 0) (.slice none 0 0) ∧ K + 1 + 1 ≤ w'.heap.size := by
  subst hK
  exact ⟨(zzA W).below h, (zzB W).below h, by simpa using h.size⟩
theorem below_new {w W : World} (h : Below w.heap.size w W) (o : Obj) : Below w.heap.size w (W.alloc o) := h.alloc h.size o
theorem below_put {w W : World} {N : Nat} (h : Below N w W) {g j : Nat} (hg : N ≤ g) (v : Value) : Below N w (W.setCell ⟨g, j, none⟩ v) := h.setCell (p := ⟨g, j, none⟩) hg v
/-- The ratio A/B lies in the block g. -/
def RaAt (W : World) (g : Nat) (a b : Value) (A B : Nat) : Prop := W.cell? ⟨g, 0, none⟩ = some a ∧ W.cell? ⟨g, 1, none⟩ = some b ∧ NatAt W a A ∧ NatAt W b B
theorem RaAt.below {W w1 : World} {g : Nat} {a b : Value} {A B : Nat} (h : RaAt W g a b A B) (hb : Below W.heap.size W w1) : RaAt w1 g a b A B :=
  ⟨cell_kept hb h.1, cell_kept hb h.2.1, h.2.2.1.below hb, h.2.2.2.below hb⟩
theorem ra_put {W : World} {g : Nat} {z0 z1 : Value} (h : W.cell? ⟨g, 0, none⟩ = some z0 ∧ W.cell? ⟨g, 1, none⟩ = some z1) (a b : Value) : (put2 W g a b).cell? ⟨g, 0, none⟩ = some a ∧ (put2 W g a b).cell? ⟨g, 1, none⟩ = some b := by
  refine ⟨?_, World.cell?_setCell_same' _ _ _ (by rw [cell_other (by simp), h.2]; rfl)⟩
  unfold put2
  rw [cell_other (by simp)]; exact World.cell?_setCell_same' _ _ _ (by rw [h.1]; rfl)
theorem nat_put {W : World} {v : Value} {a g : Nat} (h : NatAt W v a) (hr : W.cell? ⟨g, 0, none⟩ = some (.slice none 0 0) ∧ W.cell? ⟨g, 1, none⟩ = some (.slice none 0 0)) (u0 u1 : Value) : NatAt (put2 W g u0 u1) v a :=
  (h.write hr.1 (by simp) u0).write (by rw [cell_other (by simp)]; exact hr.2) (by simp) u1
theorem two_ratios {N : Nat} {w W : World} {g2 g3 : Nat} {a b c d : Value} {A B C D : Nat} (h2 : Box2 W g2 (.slice none 0 0) (.slice none 0 0)) (h3 : Box2 W g3 (.slice none 0 0) (.slice none 0 0)) (hne : g2 ≠ g3) (hb : Below N w W) (k2 : N ≤ g2) (k3 : N ≤ g3)
    (ha : NatAt W a A ∧ NatAt W b B) (hc : NatAt W c C ∧ NatAt W d D) :
    RaAt ((((W.setCell ⟨g2, 0, none⟩ a).setCell ⟨g2, 1, none⟩ b).setCell ⟨g3, 0, none⟩ c).setCell ⟨g3, 1, none⟩ d) g2 a b A B ∧ RaAt ((((W.setCell ⟨g2, 0, none⟩ a).setCell ⟨g2, 1, none⟩ b).setCell ⟨g3, 0, none⟩ c).setCell ⟨g3, 1, none⟩ d) g3 c d C D ∧ Below N w ((((W.setCell ⟨g2, 0, none⟩ a).setCell ⟨g2, 1, none⟩ b).setCell ⟨g3, 0, none⟩ c).setCell ⟨g3, 1, none⟩ d) := by
  show RaAt (put2 (put2 W g2 a b) g3 c d) g2 a b A B ∧ RaAt (put2 (put2 W g2 a b) g3 c d) g3 c d C D ∧ Below N w (put2 (put2 W g2 a b) g3 c d)
  have e2 : W.cell? ⟨g2, 0, none⟩ = some (.slice none 0 0) ∧ W.cell? ⟨g2, 1, none⟩ = some (.slice none 0 0) := ⟨h2.1, h2.2.1⟩
  have p2 := ra_put e2 a b
  have e3 : (put2 W g2 a b).cell? ⟨g3, 0, none⟩ = some (.slice none 0 0) ∧ (put2 W g2 a b).cell? ⟨g3, 1, none⟩ = some (.slice none 0 0) := ⟨put2_far hne h3.1, put2_far hne h3.2.1⟩
  have p3 := ra_put e3 c d
  have q2 := fun x X (h : NatAt W x X) => nat_put (nat_put h e2 a b) e3 c d
  exact ⟨⟨put2_far (Ne.symm hne) p2.1, put2_far (Ne.symm hne) p2.2, q2 _ _ ha.1, q2 _ _ ha.2⟩, ⟨p3.1, p3.2, q2 _ _ hc.1, q2 _ _ hc.2⟩, put2_below (put2_below hb k2) k3⟩

theorem swap3 {a b c : Prop} (h : a ∧ b ∧ c) : b ∧ a ∧ c := ⟨h.2.1, h.1, h.2.2⟩
theorem put_alloc {w W : World} {g : Nat} {a b c d : Value} {A B C D : Nat} (h2 : Box2 W g (.slice none 0 0) (.slice none 0 0)) (hb : Below w.heap.size w W) (k2 : w.heap.size ≤ g) (ha : NatAt W a A ∧ NatAt W b B) (hc : NatAt W c C ∧ NatAt W d D) :
    RaAt (((W.setCell ⟨g, 0, none⟩ a).setCell ⟨g, 1, none⟩ b).alloc (.cells #[c, d] 95)) g a b A B ∧ RaAt (((W.setCell ⟨g, 0, none⟩ a).setCell ⟨g, 1, none⟩ b).alloc (.cells #[c, d] 95)) W.heap.size c d C D ∧ Below w.heap.size w (((W.setCell ⟨g, 0, none⟩ a).setCell ⟨g, 1, none⟩ b).alloc (.cells #[c, d] 95)) := by
  show RaAt ((put2 W g a b).alloc (.cells #[c, d] 95)) g a b A B ∧ RaAt ((put2 W g a b).alloc (.cells #[c, d] 95)) W.heap.size c d C D ∧ Below w.heap.size w ((put2 W g a b).alloc (.cells #[c, d] 95))
  have e2 : W.cell? ⟨g, 0, none⟩ = some (.slice none 0 0) ∧ W.cell? ⟨g, 1, none⟩ = some (.slice none 0 0) := ⟨h2.1, h2.2.1⟩
  have p2 := ra_put e2 a b
  have q2 := fun x X (h : NatAt W x X) => (nat_put h e2 a b).below (below_alloc' (put2 W g a b) (.cells #[c, d] 95))
  have hsz : (put2 W g a b).heap.size = W.heap.size := by unfold put2; simp
  have hx : Box2 ((put2 W g a b).alloc (.cells #[c, d] 95)) (put2 W g a b).heap.size c d := ⟨by simp, by simp, by simp, by simp, by simp⟩
  rw [hsz] at hx
  exact ⟨⟨cell_kept (below_alloc' _ _) p2.1, cell_kept (below_alloc' _ _) p2.2, q2 _ _ ha.1, q2 _ _ ha.2⟩, ⟨hx.1, hx.2.1, q2 _ _ hc.1, q2 _ _ hc.2⟩, below_new (put2_below hb k2) _⟩
theorem alloc_alloc {w W : World} {a b c d : Value} {A B C D : Nat} (hb : Below w.heap.size w W) (ha : NatAt W a A ∧ NatAt W b B) (hc : NatAt W c C ∧ NatAt W d D) :
    RaAt ((W.alloc (.cells #[a, b] 95)).alloc (.cells #[c, d] 95)) W.heap.size a b A B ∧ RaAt ((W.alloc (.cells #[a, b] 95)).alloc (.cells #[c, d] 95)) (W.heap.size + 1) c d C D ∧ Below w.heap.size w ((W.alloc (.cells #[a, b] 95)).alloc (.cells #[c, d] 95)) := by
  have h1 : Box2 (W.alloc (.cells #[a, b] 95)) W.heap.size a b := ⟨by simp, by simp, by simp, by simp, by simp⟩
  have h2 := h1.below (below_alloc' _ (.cells #[c, d] 95))
  have h3 : Box2 ((W.alloc (.cells #[a, b] 95)).alloc (.cells #[c, d] 95)) (W.alloc (.cells #[a, b] 95)).heap.size c d := ⟨by simp, by simp, by simp, by simp, by simp⟩
  have hs : (W.alloc (.cells #[a, b] 95)).heap.size = W.heap.size + 1 := by simp
  rw [hs] at h3
  have q := fun x X (h : NatAt W x X) => (h.below (below_alloc' W (.cells #[a, b] 95))).below (below_alloc' _ (.cells #[c, d] 95))
  exact ⟨⟨h2.1, h2.2.1, q _ _ ha.1, q _ _ ha.2⟩, ⟨h3.1, h3.2.1, q _ _ hc.1, q _ _ hc.2⟩, below_new (below_new hb _) _⟩

/-! What the two ends' comparisons say. -/
def okL (c : Int) (ev : Bool) : Bool := decide (0 < c) || (ev && decide (c = 0))
def okH (c : Int) (ev : Bool) : Bool := decide (c < 0) || (ev && decide (c = 0))
theorem cmpI_cases (a b : Nat) : cmpI a b = -1 ∨ cmpI a b = 0 ∨ cmpI a b = 1 := by unfold cmpI; split <;> (try split) <;> simp
theorem in_cmp {f : Fm} {m N u : Nat} {x q : Int} (hx : x = f.L - 1 + (u : Int)) (hL : f.L ≤ 0) (hN : m * 2 ^ u = N) (d : Nat) : cmpI (d * inB x q) (inA m x q) = cmpI (d * ufF f q) (N * ufG q) := by
  obtain ⟨h1, h2⟩ := in_units (q := q) hx hL hN
  exact cmp_scale (Nat.two_pow_pos _) (Nat.two_pow_pos _) h1 (by rw [Nat.mul_assoc, h2, Nat.mul_assoc])
theorem okL_iff {f : Fm} {z d : Nat} {q : Int} {ev : Bool} (hev : (z % 2 == 0) = ev) : okL (cmpI (d * ufF f q) (md f (z - 1) * ufG q)) ev = true ↔ loOk f z d q := by
  subst hev
  unfold okL loOk
  rw [Bool.or_eq_true, Bool.and_eq_true, decide_eq_true_eq, decide_eq_true_eq, beq_iff_eq, cmpI_pos, cmpI_zero]
  exact or_congr Iff.rfl ⟨fun h => ⟨h.2.symm, h.1⟩, fun h => ⟨h.2, h.1.symm⟩⟩
theorem okH_iff {f : Fm} {z d : Nat} {q : Int} {ev : Bool} (hev : (z % 2 == 0) = ev) : okH (cmpI (d * ufF f q) (md f z * ufG q)) ev = true ↔ hiOk f z d q := by
  subst hev
  unfold okH hiOk
  rw [Bool.or_eq_true, Bool.and_eq_true, decide_eq_true_eq, decide_eq_true_eq, beq_iff_eq, cmpI_neg, cmpI_zero]
  exact or_congr Iff.rfl ⟨fun h => ⟨h.2, h.1⟩, fun h => ⟨h.2, h.1⟩⟩
/-- What one round of the search finds. -/
theorem sh_round {f : Fm} (hf : f.ok) {z m u ml ul mh uh : Nat} {q : Int} {ev : Bool} (hev : (z % 2 == 0) = ev) (hm : m * 2 ^ (u + 1) = 2 * vP f z) (hl : ml * 2 ^ ul = md f (z - 1)) (hh : mh * 2 ^ uh = md f z) {A B : Nat} (hA : inA m (f.L + (u : Int)) q = A) (hB : inB (f.L + (u : Int)) q = B) :
    shD f z q = (if okL (cmpI (A / B * inB (f.L - 1 + (ul : Int)) q) (inA ml (f.L - 1 + (ul : Int)) q)) ev = true ∧ okH (cmpI ((A / B + 1) * inB (f.L - 1 + (uh : Int)) q) (inA mh (f.L - 1 + (uh : Int)) q)) ev = true
      then some (if (decide (cmpI (A % B * 2) B < 0) || (decide (cmpI (A % B * 2) B = 0) && !(tb (A / B) 0))) = true then A / B else A / B + 1)
      else if okL (cmpI (A / B * inB (f.L - 1 + (ul : Int)) q) (inA ml (f.L - 1 + (ul : Int)) q)) ev = true then some (A / B)
      else if okH (cmpI ((A / B + 1) * inB (f.L - 1 + (uh : Int)) q) (inA mh (f.L - 1 + (uh : Int)) q)) ev = true then some (A / B + 1) else none) := by
  have hL : f.L ≤ 0 := Int.le_of_lt (Fm.ok.facts hf).2.2.1
  obtain ⟨h1, h2⟩ := in_units (f := f) (q := q) (x := f.L + (u : Int)) (u := u + 1) (by omega) hL hm
  rw [hA] at h1
  rw [hB] at h2
  obtain ⟨e1, e2, _⟩ := div_scale (Nat.two_pow_pos _) (Nat.two_pow_pos _) (by rw [← hB]; exact inB_pos _ _) h1 h2
  have e3 : A / B = shL f z q := e1
  have e4 : cmpI (A % B * 2) B = cmpI (2 * shR f z q) (ufF f q) := by rw [Nat.mul_comm]; exact e2
  rw [in_cmp rfl hL hl, in_cmp rfl hL hh, e4, e3]
  simp only [okL_iff hev, okH_iff hev]
  rfl
theorem le_scale {a b c d k l : Nat} (hk : 0 < k) (hl : 0 < l) (h1 : a * k = c * l) (h2 : b * k = d * l) : b ≤ a ↔ d ≤ c := by
  rw [← Nat.mul_le_mul_right_iff hk, h1, h2, Nat.mul_le_mul_right_iff hl]
theorem ten_units {f : Fm} (hf : f.ok) {z m u : Nat} {t : Int} (hm : m * 2 ^ (u + 1) = 2 * vP f z) (h : tenIs m (f.L + (u : Int)) t) : ufF f t ≤ 2 * vP f z * ufG t ∧ 2 * vP f z * ufG (t + 1) < ufF f (t + 1) := by
  have hL : f.L ≤ 0 := Int.le_of_lt (Fm.ok.facts hf).2.2.1
  obtain ⟨h1, h2⟩ := in_units (f := f) (q := t) (x := f.L + (u : Int)) (u := u + 1) (by omega) hL hm
  obtain ⟨h3, h4⟩ := in_units (f := f) (q := t + 1) (x := f.L + (u : Int)) (u := u + 1) (by omega) hL hm
  have g := le_scale (Nat.two_pow_pos _) (Nat.two_pow_pos _) h1 h2
  have g' := le_scale (Nat.two_pow_pos _) (Nat.two_pow_pos _) h3 h4
  exact ⟨g.1 h.1, Nat.lt_of_not_le fun k => Nat.not_le_of_lt h.2 (g'.2 k)⟩
/-- The end of the search. -/
theorem sh_found {f : Fm} (hf : f.ok) {z m u n d : Nat} {t q : Int} (hm : m * 2 ^ (u + 1) = 2 * vP f z) (ht : tenIs m (f.L + (u : Int)) t) (hn : 1 ≤ n) (hn' : n ≤ 17) (hq : t - n + 1 = q) (hd : shD f z q = some d) (hno : ∀ k : Nat, 1 ≤ k → k < n → shD f z (t - k + 1) = none) : ShOk f z d q :=
  ⟨t, n, ten_units hf hm ht, hn, hn', hq.symm, hd, hno⟩
theorem sh_last {f : Fm} (hf : f.ok) {z m u n : Nat} {t q : Int} (h0 : z ≠ 0) (hm : m * 2 ^ (u + 1) = 2 * vP f z) (ht : tenIs m (f.L + (u : Int)) t) (hq : t - n + 1 = q) (hd : shD f z q = none) (hn : n ≤ 17) : n ≠ 17 := by
  intro e
  subst e
  exact sh_ends hf h0 (ten_units hf hm ht).1 (by rw [show t - 16 = q by omega]; exact hd)

/-- What is sought has at most n digits. -/
theorem ab_small {f : Fm} (hf : f.ok) {z m u n A B : Nat} {t q : Int} (hm : m * 2 ^ (u + 1) = 2 * vP f z) (ht : tenIs m (f.L + (u : Int)) t) (hq : t - n + 1 = q) (hA : inA m (f.L + (u : Int)) q = A) (hB : inB (f.L + (u : Int)) q = B) : A / B < 10 ^ n := by
  have hL : f.L ≤ 0 := Int.le_of_lt (Fm.ok.facts hf).2.2.1
  obtain ⟨h1, h2⟩ := in_units (f := f) (q := q) (x := f.L + (u : Int)) (u := u + 1) (by omega) hL hm
  rw [hA] at h1
  rw [hB] at h2
  have hB0 : 0 < B := by rw [← hB]; exact inB_pos _ _
  obtain ⟨e1, _, _⟩ := div_scale (Nat.two_pow_pos _) (Nat.two_pow_pos _) hB0 h1 h2
  have k := (ten_units hf hm ht).2
  have e := uf_shift f q n
  rw [show t + 1 = q + (n : Int) by omega] at k
  rw [e1, Nat.div_lt_iff_lt_mul (ufF_pos f q)]
  have k2 := Nat.mul_lt_mul_of_pos_right k (ufG_pos q)
  rw [e] at k2
  refine Nat.lt_of_mul_lt_mul_right (a := ufG (q + n)) ?_
  calc 2 * vP f z * ufG q * ufG (q + n) = 2 * vP f z * ufG (q + n) * ufG q := by ac_rfl
    _ < _ := k2

end Go.Proofs.YtibjogbalmbeeaaGreatDoor
