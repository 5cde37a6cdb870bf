/- Walks of nat: Norm, Add. -/
import Derived.Test.YtooehlneoboenaaGreatDoorNd
namespace Go.Proofs.YtooehlneoboenaaGreatDoor
open Go.RowKit

theorem splice_all (xs : List Value) (cs : List Value) (h : cs.length = xs.length) : splice xs 0 cs = cs := by
  simp [splice, h]

set_option maxRecDepth 100000 in
theorem norm_walk (A : Option Addr) (n c : Nat) (l : List Nat) (w : World) (hn : l.length = n) (hr : RdU w A l) (hw : Wd l) (hc : n ≤ c) (hs : n ≤ 100000) (hv : (toL (vl l)).length ≤ 8192) :
    Calls Tryz.prog 88 #[.slice A n c] w fun e w' => ∃ v, e = .returned (.tuple #[v, .int .i64 0]) ∧ NatAt w' v (vl l) ∧ Below w.heap.size w w' := by
  subst hn
  have ht : trimTo l l.length = toL (vl l) := by rw [trimTo_eq hw _ (Nat.le_refl _), List.take_length]
  have hcal := trim_walk A l.length c l w rfl hr hc hs
  have hrd : RdU w A (toL (vl l)) := by rw [← ht, trimTo_take _ (Nat.le_refl _)]; exact hr.take _
  have hle : (toL (vl l)).length ≤ l.length := by rw [← ht, trimTo_take _ (Nat.le_refl _)]; simp; omega
  rw [ht] at hcal
  have hnat : ∀ w1 g, Blk w1 g (toL (vl l)) → NatAt w1 (.slice (some ⟨g, 0, none⟩) (toL (vl l)).length (toL (vl l)).length) (vl l) := fun w1 g h => h.nat _ (Nat.le_refl _)
  generalize toL (vl l) = t at *
  clear ht hr
  have hmk := make_u64 t.length (by omega)
  have HC := Lib.hid hcal
  have HR := Lib.hid hrd
  have HN := Lib.hid hnat
  clear hcal hrd hnat
  go_enter Tryz.func88, Tryz.ntmps88
  go_wp2_with (first | (go_at_call 79; refine HC.out.mono ?_; rintro e w' ⟨rfl, rfl⟩) | (with_reducible refine wpList_copy_splice rfl (.tmp 14) (.tmp 15) 77 77 rfl 25 Tryz.underlying77 (by kernel_rfl) (some ⟨w.heap.size, 0, none⟩) A t.length t.length t.length c rfl rfl w.heap.size 0 (U (List.replicate t.length 0)).toList 25 ?c1 (U t).toList ?c2 ?c3 ?c4 ?c5 w.heap.size w ?c6 (Nat.le_refl _) ?_))
  case c1 => exact Blk.new w _
  case c2 => simp [U]
  case c3 =>
    intro hp
    obtain ⟨ad, e, hcl⟩ := HR.out (by simpa [U] using hp)
    refine ⟨ad, e, fun j v hj => ?_⟩
    have hj2 : j < t.length := by
      by_cases h : j < t.length
      · exact h
      · simp [U, Nat.le_of_not_lt h] at hj
    have hu := U_get hj2
    rw [hj] at hu
    rw [hu]
    exact cell_kept ((Below.refl _ _).alloc (Nat.le_refl _) _) (hcl j hj2)
  case c4 => simp [U]
  case c5 =>
    intro v hv
    simp [U] at hv
    obtain ⟨x, _, rfl⟩ := hv
    rfl
  case c6 => exact (Below.refl _ _).alloc (Nat.le_refl _) _
  intro w1 h1 hb1
  have hB : Blk w1 w.heap.size t := by
    have := h1.out
    rw [splice_all _ _ (by simp [U])] at this
    exact this
  have HB := Lib.hid hB
  clear hB h1
  go_wp2
  go_ret2
  exact ⟨_, rfl, HN.out _ _ HB.out, hb1⟩

set_option maxRecDepth 100000 in
theorem add_walk (v1 v2 : Value) (a b : Nat) (w : World) (h1 : NatAt w v1 a) (h2 : NatAt w v2 b) (hb : blen (a + b) ≤ 524288) :
    Calls Tryz.prog 113 #[v1, v2] w fun e w' => ∃ v, e = .returned (.tuple #[v, .int .i64 0]) ∧ NatAt w' v (a + b) ∧ Below w.heap.size w w' := by
  have ha1 := blen_mono (Nat.le_add_right a b)
  have hb1 := blen_mono (Nat.le_add_left b a)
  have hsa : (toL a).length ≤ 8192 := by rw [toL_length]; omega
  have hsb : (toL b).length ≤ 8192 := by rw [toL_length]; omega
  have hfa := form_walk v1 a w h1 hsa
  have hfb := form_walk v2 b w h2 hsb
  have hfit : (toL (a + b)).length ≤ 8192 := by rw [toL_length]; omega
  obtain ⟨A1, c1, rfl, hc1, hr1⟩ := h1
  obtain ⟨A2, c2, rfl, hc2, hr2⟩ := h2
  have hela := el_toL a
  have helb := el_toL b
  have hwa := Wd_toL a
  have hwb := Wd_toL b
  have hla := (toL_length_le a (toL a).length).1 (Nat.le_refl _)
  have hlb := (toL_length_le b (toL b).length).1 (Nat.le_refl _)
  generalize toL a = la at *
  generalize toL b = lb at *
  have HFA := Lib.hid hfa
  have HFB := Lib.hid hfb
  have HR1 := Lib.hid hr1
  have HR2 := Lib.hid hr2
  have HL1 := Lib.hid hela
  have HL2 := Lib.hid helb
  have HW1 := Lib.hid hwa
  have HW2 := Lib.hid hwb
  have HA := Lib.hid hla
  have HBb := Lib.hid hlb
  have HFit := Lib.hid hfit
  clear hfa hfb hr1 hr2 hela helb hwa hwb hla hlb hfit
  have hmk1 := make_u64 (la.length + 1) (by omega)
  have hmk2 := make_u64 (lb.length + 1) (by omega)
  rw [show ((la.length + 1 : Nat) : Int) = (la.length : Int) + 1 by omega] at hmk1
  rw [show ((lb.length + 1 : Nat) : Int) = (lb.length : Int) + 1 by omega] at hmk2
  have hadd := fun (x y c : Nat) (hc : c ≤ 1) (w : World) => Any7.bits_Add64 Tryz.lays7_25 x y c hc w
  have HADD := Lib.hid hadd
  clear hadd
  by_cases hsw : la.length < lb.length
  · go_enter Tryz.func113, Tryz.ntmps113
    go_wp2_with (first | (go_at_call_of 96 (Value.slice A1 la.length c1); refine HFA.out.mono ?_; rintro e w' ⟨rfl, rfl⟩) | (go_at_call_of 96 (Value.slice A2 lb.length c2); refine HFB.out.mono ?_; rintro e w' ⟨rfl, rfl⟩))
    have hB0 := Blk.new w (List.replicate (lb.length + 1) 0)
    have hb0 : Below w.heap.size w (w.alloc (.cells (U (List.replicate (lb.length + 1) 0)) 25)) := (Below.refl _ _).alloc (Nat.le_refl _) _
    rw [← fil_zero (lb.length + 1) (a + b)] at hB0 hb0 ⊢
    clear hmk1 hmk2
    go_loopw [7, 31] (fun cy i wr => ∃ k : Nat, k ≤ lb.length ∧ i = .int .i64 k ∧ cy = .int .u64 ((car a b k : Nat) : Int) ∧ Blk wr w.heap.size (fil (lb.length + 1) k (a + b)) ∧ Below w.heap.size w wr) (fun _ i _ => lb.length - (intOf i).toNat)
    case atStart => exact ⟨0, by omega, rfl, by rw [car_zero]; rfl, hB0, hb0⟩
    case round =>
      obtain ⟨k, hk, rfl, rfl, hB, hb⟩ := hrel
      have HB := Lib.hid hB
      have HD := Lib.hid hb
      clear hB hb hB0 hb0
      have hcl := car_le a b k
      have hgl := HB.out.lt
      by_cases hlt : k < lb.length
      · obtain ⟨ad, rfl, hc0⟩ := (HR2.out.below HD.out) (by omega)
        have hck := hc0 k (by omega)
        have hz := HB.out.frozen k
        have hfl : k < (fil (lb.length + 1) k (a + b)).length := by rw [fil_length (by omega)]; omega
        have hcs := HB.out.cell hfl
        have hw := add_word a b k
        rw [← HL1.out k, ← HL2.out k] at hw
        have hadd : ∀ w1 : World, (callFunc 114 #[.int .u64 ((el lb k : Nat) : Int), .int .u64 ((el la k : Nat) : Int), .int .u64 ((car a b k : Nat) : Int)]).run Tryz.prog w1 = .ok (.value (.tuple #[.int .u64 (((a + b) / W64 ^ k % W64 : Nat) : Int), .int .u64 ((car a b (k + 1) : Nat) : Int)])) w1 := fun w1 => by
          have := HADD.out (el lb k) (el la k) (car a b k) hcl w1
          rw [Nat.add_comm (el lb k)] at this
          rw [hw.1, hw.2] at this
          exact this
        have hB1 := HB.out.set k ((a + b) / W64 ^ k % W64)
        rw [fil_set (by omega) rfl] at hB1
        have HB1 := Lib.hid hB1
        clear hc0 hw hB1 hfl
        by_cases hy : k < la.length
        · obtain ⟨ad2, rfl, hc2⟩ := (HR1.out.below HD.out) (by omega)
          have hck2 := hc2 k hy
          clear hc2
          go_wp2_with fail
          go_roundw
          case rel => exact ⟨k + 1, by omega, by go_num, rfl, HB1.out, HD.out.setCell (p := ⟨w.heap.size, k, none⟩) (Nat.le_refl _) _⟩
          case measure => simp [intOf]; omega
        · have e0 : el la k = 0 := el_out (by omega)
          rw [e0] at hadd
          have hadd2 : ∀ w1 : World, (callFunc 114 #[.int .u64 ((el lb k : Nat) : Int), .int .u64 0, .int .u64 ((car a b k : Nat) : Int)]).run Tryz.prog w1 = .ok (.value (.tuple #[.int .u64 (((a + b) / W64 ^ k % W64 : Nat) : Int), .int .u64 ((car a b (k + 1) : Nat) : Int)])) w1 := hadd
          clear hadd e0
          go_wp2_with fail
          go_roundw
          case rel => exact ⟨k + 1, by omega, by go_num, rfl, HB1.out, HD.out.setCell (p := ⟨w.heap.size, k, none⟩) (Nat.le_refl _) _⟩
          case measure => simp [intOf]; omega
      · have hk2 : k = lb.length := by omega
        subst hk2
        have hltX : a < W64 ^ lb.length ∧ b < W64 ^ lb.length := ⟨Nat.lt_of_lt_of_le HA.out (Nat.pow_le_pow_right W64_pos (by omega)), Nat.lt_of_lt_of_le HBb.out (Nat.pow_le_pow_right W64_pos (by omega))⟩
        have hz := HB.out.frozen lb.length
        have hfl : lb.length < (fil (lb.length + 1) lb.length (a + b)).length := by rw [fil_length (by omega)]; omega
        have hcs := HB.out.cell hfl
        have hB1 := HB.out.set lb.length (car a b lb.length)
        rw [fil_set (by omega) (car_top hltX.1 hltX.2), fil_full] at hB1
        have hsum : a + b < W64 ^ (lb.length + 1) := by
          rw [Nat.pow_succ, W64_num]
          have h3 := hltX.1
          have h4 := hltX.2
          rw [W64_num] at h3 h4
          omega
        have hD1 := HD.out.setCell (p := ⟨w.heap.size, lb.length, none⟩) (Nat.le_refl _) (.int .u64 ((car a b lb.length : Nat) : Int))
        have htold := told_walk (some ⟨w.heap.size, 0, none⟩) (lb.length + 1) (lb.length + 1) _ _ (pad_length _ _) hB1.read (Wd_pad _ _) (Nat.le_refl _) (by omega)
          (by rw [vl_pad_of hsum]; exact HFit.out)
        rw [vl_pad_of hsum] at htold
        have HT := Lib.hid htold
        have HD1 := Lib.hid hD1
        clear htold hD1 hB1 hfl hltX hsum
        go_wp2_with (go_at_call 98; refine HT.out.mono ?_; rintro e w' ⟨v', rfl, hv', rfl⟩)
        go_ret2
        exact ⟨_, rfl, hv', HD1.out⟩
  · go_enter Tryz.func113, Tryz.ntmps113
    go_wp2_with (first | (go_at_call_of 96 (Value.slice A1 la.length c1); refine HFA.out.mono ?_; rintro e w' ⟨rfl, rfl⟩) | (go_at_call_of 96 (Value.slice A2 lb.length c2); refine HFB.out.mono ?_; rintro e w' ⟨rfl, rfl⟩))
    have hB0 := Blk.new w (List.replicate (la.length + 1) 0)
    have hb0 : Below w.heap.size w (w.alloc (.cells (U (List.replicate (la.length + 1) 0)) 25)) := (Below.refl _ _).alloc (Nat.le_refl _) _
    rw [← fil_zero (la.length + 1) (a + b)] at hB0 hb0 ⊢
    clear hmk1 hmk2
    go_loopw [7, 31] (fun cy i wr => ∃ k : Nat, k ≤ la.length ∧ i = .int .i64 k ∧ cy = .int .u64 ((car a b k : Nat) : Int) ∧ Blk wr w.heap.size (fil (la.length + 1) k (a + b)) ∧ Below w.heap.size w wr) (fun _ i _ => la.length - (intOf i).toNat)
    case atStart => exact ⟨0, by omega, rfl, by rw [car_zero]; rfl, hB0, hb0⟩
    case round =>
      obtain ⟨k, hk, rfl, rfl, hB, hb⟩ := hrel
      have HB := Lib.hid hB
      have HD := Lib.hid hb
      clear hB hb hB0 hb0
      have hcl := car_le a b k
      have hgl := HB.out.lt
      by_cases hlt : k < la.length
      · obtain ⟨ad, rfl, hc0⟩ := (HR1.out.below HD.out) (by omega)
        have hck := hc0 k (by omega)
        have hz := HB.out.frozen k
        have hfl : k < (fil (la.length + 1) k (a + b)).length := by rw [fil_length (by omega)]; omega
        have hcs := HB.out.cell hfl
        have hw := add_word a b k
        rw [← HL1.out k, ← HL2.out k] at hw
        have hadd : ∀ w1 : World, (callFunc 114 #[.int .u64 ((el la k : Nat) : Int), .int .u64 ((el lb k : Nat) : Int), .int .u64 ((car a b k : Nat) : Int)]).run Tryz.prog w1 = .ok (.value (.tuple #[.int .u64 (((a + b) / W64 ^ k % W64 : Nat) : Int), .int .u64 ((car a b (k + 1) : Nat) : Int)])) w1 := fun w1 => by
          have := HADD.out (el la k) (el lb k) (car a b k) hcl w1
          rw [hw.1, hw.2] at this
          exact this
        have hB1 := HB.out.set k ((a + b) / W64 ^ k % W64)
        rw [fil_set (by omega) rfl] at hB1
        have HB1 := Lib.hid hB1
        clear hc0 hw hB1 hfl
        by_cases hy : k < lb.length
        · obtain ⟨ad2, rfl, hc2⟩ := (HR2.out.below HD.out) (by omega)
          have hck2 := hc2 k hy
          clear hc2
          go_wp2_with fail
          go_roundw
          case rel => exact ⟨k + 1, by omega, by go_num, rfl, HB1.out, HD.out.setCell (p := ⟨w.heap.size, k, none⟩) (Nat.le_refl _) _⟩
          case measure => simp [intOf]; omega
        · have e0 : el lb k = 0 := el_out (by omega)
          rw [e0] at hadd
          have hadd2 : ∀ w1 : World, (callFunc 114 #[.int .u64 ((el la k : Nat) : Int), .int .u64 0, .int .u64 ((car a b k : Nat) : Int)]).run Tryz.prog w1 = .ok (.value (.tuple #[.int .u64 (((a + b) / W64 ^ k % W64 : Nat) : Int), .int .u64 ((car a b (k + 1) : Nat) : Int)])) w1 := hadd
          clear hadd e0
          go_wp2_with fail
          go_roundw
          case rel => exact ⟨k + 1, by omega, by go_num, rfl, HB1.out, HD.out.setCell (p := ⟨w.heap.size, k, none⟩) (Nat.le_refl _) _⟩
          case measure => simp [intOf]; omega
      · have hk2 : k = la.length := by omega
        subst hk2
        have hltX : a < W64 ^ la.length ∧ b < W64 ^ la.length := ⟨Nat.lt_of_lt_of_le HA.out (Nat.pow_le_pow_right W64_pos (by omega)), Nat.lt_of_lt_of_le HBb.out (Nat.pow_le_pow_right W64_pos (by omega))⟩
        have hz := HB.out.frozen la.length
        have hfl : la.length < (fil (la.length + 1) la.length (a + b)).length := by rw [fil_length (by omega)]; omega
        have hcs := HB.out.cell hfl
        have hB1 := HB.out.set la.length (car a b la.length)
        rw [fil_set (by omega) (car_top hltX.1 hltX.2), fil_full] at hB1
        have hsum : a + b < W64 ^ (la.length + 1) := by
          rw [Nat.pow_succ, W64_num]
          have h3 := hltX.1
          have h4 := hltX.2
          rw [W64_num] at h3 h4
          omega
        have hD1 := HD.out.setCell (p := ⟨w.heap.size, la.length, none⟩) (Nat.le_refl _) (.int .u64 ((car a b la.length : Nat) : Int))
        have htold := told_walk (some ⟨w.heap.size, 0, none⟩) (la.length + 1) (la.length + 1) _ _ (pad_length _ _) hB1.read (Wd_pad _ _) (Nat.le_refl _) (by omega)
          (by rw [vl_pad_of hsum]; exact HFit.out)
        rw [vl_pad_of hsum] at htold
        have HT := Lib.hid htold
        have HD1 := Lib.hid hD1
        clear htold hD1 hB1 hfl hltX hsum
        go_wp2_with (go_at_call 98; refine HT.out.mono ?_; rintro e w' ⟨v', rfl, hv', rfl⟩)
        go_ret2
        exact ⟨_, rfl, hv', HD1.out⟩
end Go.Proofs.YtooehlneoboenaaGreatDoor
