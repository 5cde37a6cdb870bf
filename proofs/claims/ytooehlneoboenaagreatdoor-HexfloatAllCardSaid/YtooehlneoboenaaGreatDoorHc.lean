/- Walks of hexfloat: value, limbs. -/
import Derived.Test.YtooehlneoboenaaGreatDoorHb
import Derived.Test.YtooehlneoboenaaGreatDoorPe
namespace Go.Proofs.YtooehlneoboenaaGreatDoor
open Go.RowKit

theorem isHex_range (c : UInt8) (h : isHex c = true) : (48 ≤ c.toNat ∧ c.toNat ≤ 57) ∨ (97 ≤ c.toNat ∧ c.toNat ≤ 102) ∨ (65 ≤ c.toNat ∧ c.toNat ≤ 70) := by
  unfold isHex hexSet at h
  simp only [List.contains_eq_mem, List.mem_cons, List.not_mem_nil, or_false, decide_eq_true_eq] at h
  rcases h with h | h | h | h | h | h | h | h | h | h | h | h | h | h | h | h | h | h | h | h | h | h <;> subst h <;> decide
theorem hexV_lt (c : UInt8) (h : isHex c = true) : hexV c < 16 := by
  unfold hexV
  rcases isHex_range c h with h | h | h
  · rw [if_pos h.2]; omega
  · rw [if_neg (by omega), if_pos h.1]; omega
  · rw [if_neg (by omega), if_neg (by omega)]; omega

set_option maxRecDepth 100000 in
theorem value_walk (c : UInt8) (h : isHex c = true) (w : World) :
    Calls Tryz.prog 87 #[.int .u8 (c.toNat : Int)] w fun e w' => e = .returned (.int .u64 ((hexV c : Nat) : Int)) ∧ w' = w := by
  have hr := isHex_range c h
  unfold hexV
  generalize c.toNat = n at *
  rcases hr with hr | hr | hr
  · obtain ⟨h1, h2⟩ := hr
    rw [if_pos h2]
    go_enter Tryz.func87, Tryz.ntmps87
    go_wp2
    go_ret
    exact ⟨ret_int (by omega), rfl⟩
  · obtain ⟨h1, h2⟩ := hr
    rw [if_neg (by omega), if_pos h1]
    go_enter Tryz.func87, Tryz.ntmps87
    go_wp2
    go_ret
    exact ⟨ret_int (by omega), rfl⟩
  · obtain ⟨h1, h2⟩ := hr
    rw [if_neg (by omega), if_neg (by omega)]
    go_enter Tryz.func87, Tryz.ntmps87
    go_wp2
    go_ret
    exact ⟨ret_int (by omega), rfl⟩

set_option maxRecDepth 100000 in
theorem limbs_walk (d : ByteArray) (w : World) (hs : d.size ≤ 8000) (hd : ∀ j, j < d.size → isHex (by8 d j) = true) :
    Calls Tryz.prog 60 #[.string d] w fun e w' => ∃ v, e = .returned v ∧ NatAt w' v (hv (by8 d) d.size d.size) ∧ Below w.heap.size w w' := by
  obtain ⟨M, hM⟩ : ∃ M, M = d.size / 16 + 1 := ⟨_, rfl⟩
  have hMb : M ≤ 600 := by omega
  have hmk := make_u64 M (by omega)
  have em : (d.size : Int) / 16 + 1 = (M : Int) := by omega
  rw [← em] at hmk
  have hX : hv (by8 d) d.size d.size < W64 ^ M := by
    have h1 := hv_lt (by8 d) d.size d.size fun j hj => hexV_lt _ (hd _ (by omega))
    rw [pow16] at h1
    refine Nat.lt_of_lt_of_le h1 ?_
    rw [hM, Nat.pow_succ]
    refine Nat.mul_le_mul_left _ ?_
    rw [W64_eq]; exact Nat.pow_le_pow_right (by omega) (by omega)
  have HX := Lib.hid hX
  have HM := Lib.hid hM
  have HD := Lib.hid hd
  clear em hX hM hd
  go_enter Tryz.func60, Tryz.ntmps60
  go_wp2_with fail
  have hB0 := Blk.new w (List.replicate M 0)
  have hb0 : Below w.heap.size w (w.alloc (.cells (U (List.replicate M 0)) 25)) := (Below.refl _ _).alloc (Nat.le_refl _) _
  have ez : List.replicate M 0 = pad M (hv (by8 d) d.size 0) := by
    apply list_ext
    · simp [pad_length]
    · intro j hj
      simp at hj
      rw [el_pad hj]
      simp [el, hj, hv]
  rw [ez] at hB0 hb0 ⊢
  clear hmk ez
  go_loopw [13] (fun i wr => ∃ k : Nat, k ≤ d.size ∧ i = .int .i64 k ∧ Blk wr w.heap.size (pad M (hv (by8 d) d.size k)) ∧ Below w.heap.size w wr) (fun i _ => d.size - (intOf i).toNat)
  case atStart => exact ⟨0, by omega, rfl, hB0, hb0⟩
  case round =>
    obtain ⟨k, hk, rfl, hB, hb⟩ := hrel
    have HB := Lib.hid hB
    have HW := Lib.hid hb
    clear hB hb hB0 hb0
    by_cases hlt : k < d.size
    · have hm := HM.out
      have hgl := HB.out.lt
      obtain ⟨hs1, hs2, hs3⟩ := hex_step (M := M) (n := d.size) (k := k) (f := by8 d) (by omega) fun j hj => hexV_lt _ (HD.out _ (by omega))
      have hpl : k / 16 < (pad M (hv (by8 d) d.size k)).length := by rw [pad_length]; omega
      have hq1 : k / 16 < M := by omega
      have hcs := HB.out.cell hpl
      have hz := HB.out.frozen (k / 16)
      have hval := fun w1 => value_walk (by8 d (d.size - 1 - k)) (HD.out _ (by omega)) w1
      have hor := or_shl _ (hexV (by8 d (d.size - 1 - k))) (4 * (k % 16)) hs1 (by omega)
      rw [Nat.mod_eq_of_lt hs2] at hor
      have hB1 := HB.out.set (k / 16) (el (pad M (hv (by8 d) d.size k)) (k / 16) + hexV (by8 d (d.size - 1 - k)) * 2 ^ (4 * (k % 16)))
      rw [hs3] at hB1
      have hix := fun w1 => run_byte d (d.size - 1 - k) (by omega) (by omega) w1
      have e1 : ((d.size - 1 - k : Nat) : Int) = (d.size : Int) - 1 - (k : Int) := by omega
      rw [e1] at hix
      generalize el (pad M (hv (by8 d) d.size k)) (k / 16) = c1 at *
      have HOR := Lib.hid hor
      have HB1 := Lib.hid hB1
      have HVAL := Lib.hid hval
      clear hor hB1 hs1 hs2 hs3 hm e1 hpl hval
      have hdl : (d.size : Int) ≤ 8000 := by omega
      go_wp2_with fail
      have p0 : IntKind.i64.wrap ((k : Int) / 16) = (k : Int) / 16 := IntWalk.i64_in _ (by omega)
      have p7 : (k : Int).tmod 16 = (k : Int) % 16 := Int.tmod_eq_emod_of_nonneg (by omega)
      have p1 : IntKind.i64.wrap (4 * ((k : Int) % 16)) = 4 * ((k : Int) % 16) := IntWalk.i64_in _ (by omega)
      have p2 : (4 * ((k : Int) % 16)).toNat = 4 * (k % 16) := by omega
      have p3 : 0 ≤ 4 * ((k : Int) % 16) := by omega
      have p4 : ((k : Int) / 16).toNat = k / 16 := by omega
      have p5 : 0 ≤ (k : Int) / 16 := by omega
      have p6 : (k : Int) / 16 < (M : Int) := by omega
      refine wp_region_still_tail 15 (by kernel_rfl) (by kernel_rfl) ?_
      simp only [List.take_succ_cons, List.take_zero, List.drop_succ_cons, List.drop_zero]
      repeat still_step
      still_call (HVAL.out _)
      repeat still_step
      try refine wpStill_nil ?_
      change wpList _ _ _ _ _ _
      clear p7 p0 p1 p2 p3 p4 p5 p6
      go_wp2
      rw [HOR.out]
      go_roundw
      case rel => exact ⟨k + 1, by omega, by go_num, HB1.out, (HW.out.setCell (p := ⟨w.heap.size, k / 16, none⟩) (Nat.le_refl _) _).drew⟩
      case measure => simp [intOf]; omega
    · have hk2 : k = d.size := by omega
      subst hk2
      have hnorm := norm_walk (some ⟨w.heap.size, 0, none⟩) M M (pad M (hv (by8 d) d.size d.size)) wr (pad_length _ _) HB.out.read (Wd_pad _ _) (Nat.le_refl _) (by omega)
        (by rw [vl_pad_of HX.out]; have := (toL_length_le _ _).2 HX.out; omega)
      rw [vl_pad_of HX.out] at hnorm
      have HN := Lib.hid hnorm
      clear hnorm
      go_wp2_with fail
      refine HN.out.mono ?_
      rintro e w1 ⟨v1, rfl, hn1, hb1⟩
      have HN1 := Lib.hid hn1
      clear hn1
      go_wp2
      go_ret
      exact ⟨_, rfl, HN1.out, below_chain HW.out hb1⟩
end Go.Proofs.YtooehlneoboenaaGreatDoor
