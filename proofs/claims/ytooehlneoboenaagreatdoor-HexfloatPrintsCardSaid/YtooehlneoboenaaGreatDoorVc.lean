/- Walks of gnomonref01: Norm, Word. -/
import Derived.Test.YtooehlneoboenaaGreatDoorVb
namespace Go.Proofs.YtooehlneoboenaaGreatDoor
open Go.RowKit

theorem trimD_stop {l : List Nat} {k : Nat} (hk : k ≤ l.length) (h : k = 0 ∨ el l (k - 1) ≠ 0) : trimD l k = l.take k := by
  cases k with
  | zero => simp [trimD]
  | succ k => rw [trimD, if_neg (by rcases h with h | h; omega; exact h)]

set_option maxRecDepth 100000 in
set_option maxHeartbeats 1000000 in
theorem rnorm_walk (v : Value) (l : List Nat) (w : World) (h : LsD w v l) (hw : We l) (hs : l.length ≤ 100000) :
    Calls Tryz.prog 52 #[v] w fun e w' => ∃ v', e = .returned v' ∧ DgAt w' v' (vd l) ∧ Below w.heap.size w w' := by
  obtain ⟨A, c, rfl, hc, hAc, hr⟩ := h
  have HAC := Lib.hid hAc
  have HR := Lib.hid hr
  have HW := Lib.hid hw
  clear hr hw hAc
  go_enter Tryz.func52, Tryz.ntmps52
  go_wp2_with fail
  go_loop [3] (fun n => ∃ k : Nat, k ≤ l.length ∧ n = .int .i64 k ∧ trimD l l.length = trimD l k) (fun n => (intOf n).toNat)
  case atStart => exact ⟨l.length, Nat.le_refl _, rfl, rfl⟩
  case round =>
    obtain ⟨k, hk, rfl, hT⟩ := hrel
    have HT := Lib.hid hT
    clear hT
    by_cases hgo : k = 0 ∨ el l (k - 1) ≠ 0
    · -- the loop's end
      have HD := Lib.hid (show l.take k = toD (vd l) by
        rw [← trimD_stop hk hgo, ← HT.out, trimD_eq HW.out _ (Nat.le_refl _), List.take_length])
      have hmk := make_u32 k (by omega)
      have hB := BlD.new w (List.replicate k 0)
      have hb := below_alloc' w (.cells (UD (List.replicate k 0)) 90)
      have hlk : (l.take k).length = k := by rw [List.length_take]; omega
      have hrk : RdD (w.alloc (.cells (UD (List.replicate k 0)) 90)) A (l.take k) := fun hl => by
        obtain ⟨ad, e, hcl⟩ := (RdD.below HR.out hb) (by omega)
        exact ⟨ad, e, fun j hj => by rw [hcl j (by omega), el_take (by omega)]⟩
      obtain ⟨w1, hcp, hB1, hb1⟩ := copy_u32 (w.alloc (.cells (UD (List.replicate k 0)) 90)) w.heap.size (List.replicate k 0) (l.take k) (by rw [hlk]; simp) hB A c HAC.out hrk
      have HB1 := Lib.hid hB1
      have HW1 := Lib.hid (hb1 w.heap.size (Nat.le_refl _) w hb)
      rw [hlk] at hcp
      simp only [List.length_replicate] at hcp
      clear hB hb hB1 hb1 hrk
      rcases Nat.eq_zero_or_pos k with h0 | hp
      · have h0i : ¬ (0 : Int) < (k : Int) := by omega
        clear h0 hgo
        go_wp2
        go_ret
        refine ⟨_, rfl, ?_, HW1.out⟩
        have := HB1.out.ls k (by omega)
        rw [hlk, HD.out] at this
        exact this
      · obtain ⟨ad, rfl, hc0⟩ := HR.out (by omega)
        have hck := hc0 (k - 1) (by omega)
        have hne : (((el l (k - 1) : Nat) : Int) == 0) = false := by
          rw [beq_eq_false_iff_ne]
          rcases hgo with h | h
          · omega
          · omega
        have hkp : (0 : Int) < (k : Int) := by omega
        have e1 : ((k : Int) - 1).toNat = k - 1 := by omega
        clear hc0 hgo
        go_wp2
        go_ret
        refine ⟨_, rfl, ?_, HW1.out⟩
        have := HB1.out.ls k (by omega)
        rw [hlk, HD.out] at this
        exact this
    · obtain ⟨m, rfl⟩ : ∃ m, k = m + 1 := ⟨k - 1, by omega⟩
      have hz : el l m = 0 := by
        have : ¬ (m + 1 = 0 ∨ el l (m + 1 - 1) ≠ 0) := hgo
        rw [Nat.add_sub_cancel] at this
        omega
      obtain ⟨ad, rfl, hc0⟩ := HR.out (by omega)
      have hck := hc0 m (by omega)
      rw [hz] at hck
      have HT2 := Lib.hid (show trimD l l.length = trimD l m by rw [HT.out, trimD, if_pos hz])
      clear hc0 hgo hz
      go_wp2
      go_round
      case rel => exact ⟨m, by omega, rfl, HT2.out⟩
      case measure => simp [intOf]

set_option maxRecDepth 100000 in
theorem word_list {x : Nat} (h : x < 18446744073709551616) : vd [x % 4294967296, x / 4294967296] = x ∧ We [x % 4294967296, x / 4294967296] := by
  refine ⟨?_, ?_⟩
  · simp only [vd, W32_num]; omega
  · intro y hy
    simp at hy
    rw [W32_num]
    omega

set_option maxRecDepth 100000 in
theorem rword_walk (x : Nat) (hx : x < 18446744073709551616) (w : World) :
    Calls Tryz.prog 28 #[.int .u64 (x : Int)] w fun e w' => ∃ v', e = .returned v' ∧ DgAt w' v' x ∧ Below w.heap.size w w' := by
  obtain ⟨hv, hw⟩ := word_list hx
  have hand : bits BinOp.and IntKind.u64 (x : Int) 4294967295 = ((x % 4294967296 : Nat) : Int) := by
    have h1 := bits_and_u64_nat x 4294967295 (by omega) (by omega)
    rw [show ((4294967295 : Nat) : Int) = 4294967295 from rfl] at h1
    rw [h1, show (4294967295 : Nat) = 2 ^ 32 - 1 from rfl, Nat.and_two_pow_sub_one_eq_mod]
  have hdiv : (x : Int) / 4294967296 = ((x / 4294967296 : Nat) : Int) := by omega
  obtain ⟨lo, hlo⟩ : ∃ lo, x % 4294967296 = lo := ⟨_, rfl⟩
  obtain ⟨hi, hhi⟩ : ∃ hi, x / 4294967296 = hi := ⟨_, rfl⟩
  rw [hlo] at hv hw hand
  rw [hhi] at hv hw hdiv
  have hlb : (lo : Int) < 4294967296 := by omega
  have hhb : (hi : Int) < 4294967296 := by omega
  have hB := BlD.new w [lo, hi]
  have hb := below_alloc' w (.cells (UD [lo, hi]) 90)
  have HN := Lib.hid (rnorm_walk _ [lo, hi] _ (hB.ls 2 (by simp)) hw (by simp))
  have HB := Lib.hid hb
  rw [hv] at HN
  clear hv hw hlo hhi hB hb hx
  go_enter Tryz.func28, Tryz.ntmps28
  go_wp2_with fail
  refine HN.out.mono ?_
  rintro e w2 ⟨v', rfl, hn2, hb2⟩
  have HN2 := Lib.hid hn2
  obtain ⟨A2, c2, rfl, hc2, hz2, hr2⟩ := hn2
  clear hc2 hz2 hr2
  go_wp2
  go_ret
  exact ⟨_, rfl, HN2.out, below_chain HB.out hb2⟩
end Go.Proofs.YtooehlneoboenaaGreatDoor
