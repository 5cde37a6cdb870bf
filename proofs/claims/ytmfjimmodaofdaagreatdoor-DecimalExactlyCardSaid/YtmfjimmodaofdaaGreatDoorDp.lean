/- Walk of the laws' helper: place. -/
import Derived.Test.YtmfjimmodaofdaaGreatDoorLy
namespace Go.Proofs.YtmfjimmodaofdaaGreatDoor
open Go.RowKit

/-- The law's reading of the digits behind e. -/
def plF (n : Nat) (c : UInt8) : Nat := if isDec c = true then min (10 * n + dgV c) 1048576 else n
theorem plF_le {n : Nat} (h : n ≤ 1048576) (c : UInt8) : plF n c ≤ 1048576 := by unfold plF; split <;> omega
theorem plF_fold_le (l : List UInt8) : ∀ n, n ≤ 1048576 → l.foldl plF n ≤ 1048576 := by
  induction l with
  | nil => intro n h; exact h
  | cons c t ih => intro n h; rw [List.foldl_cons]; exact ih _ (plF_le h c)
theorem plF_val {X : List UInt8} (hX : X.all isDec = true) : ∀ n, n ≤ 1048576 → X.foldl plF n = min (n * 10 ^ X.length + dcV X) 1048576 := by
  induction X with
  | nil => intro n h; simp [dcV_nil]; omega
  | cons c t ih =>
    intro n h
    rw [List.all_cons, Bool.and_eq_true] at hX
    have hp := Nat.pow_pos (n := t.length) (show 0 < 10 by omega)
    rw [List.foldl_cons, ih hX.2 _ (plF_le h c), dcV_cons, List.length_cons, Nat.pow_succ]
    unfold plF
    rw [if_pos hX.1]
    by_cases hc : 10 * n + dgV c ≤ 1048576
    · rw [Nat.min_eq_left hc, Nat.add_mul]
      congr 1
      have : 10 * n * 10 ^ t.length = n * (10 ^ t.length * 10) := by ac_rfl
      omega
    · have e1 : min (10 * n + dgV c) 1048576 = 1048576 := by omega
      rw [e1]
      have h1 : 1048576 ≤ (10 * n + dgV c) * 10 ^ t.length := Nat.le_trans (by omega) (Nat.le_mul_of_pos_right _ hp)
      rw [Nat.add_mul] at h1
      have : 10 * n * 10 ^ t.length = n * (10 ^ t.length * 10) := by ac_rfl
      omega
theorem plF_itoa (y : Int) (h1 : -2000 ≤ y) (h2 : y ≤ 2000) : (Lib.itoa y).foldl plF 0 = y.natAbs := by
  obtain ⟨d1, d2, _, _⟩ := dcV_digits y.natAbs
  rw [itoa_abs, List.foldl_append]
  have e : (if y < 0 then [45] else [] : List UInt8).foldl plF 0 = 0 := by split <;> rfl
  rw [e, plF_val (all_dec d2) 0 (by omega), d1]
  omega
theorem abs_pos {y : Int} {n : Nat} (h1 : false = decide (y < 0)) (h2 : y.natAbs = n) : (n : Int) = y := by
  have := of_decide_eq_false h1.symm
  omega
theorem abs_neg {y : Int} {n : Nat} (h1 : true = decide (y < 0)) (h2 : y.natAbs = n) : -(n : Int) = y := by
  have := of_decide_eq_true h1.symm
  omega
theorem itoa_head (y : Int) : ∃ c l, Lib.itoa y = c :: l ∧ (c = 45 ↔ y < 0) := by
  rw [itoa_abs]
  obtain ⟨d1, d2, _, d4⟩ := dcV_digits y.natAbs
  by_cases hy : y < 0
  · rw [if_pos hy]; exact ⟨45, _, rfl, by simp [hy]⟩
  · rw [if_neg hy]
    cases hD : Lib.decDigits y.natAbs with
    | nil => rw [hD] at d4; exact absurd rfl d4
    | cons c l =>
      refine ⟨c, l, rfl, ?_⟩
      have hc := List.all_eq_true.1 d2 c (by rw [hD]; simp)
      constructor
      · intro e; rw [e] at hc; exact absurd hc (by decide)
      · intro h; exact absurd h hy

set_option maxRecDepth 100000 in
set_option maxHeartbeats 4000000 in
theorem lplace_walk (A : List UInt8) (y : Int) (hA : ∀ x ∈ A, x ≠ 101) (hAl : A.length ≤ 1500) (y1 : -2000 ≤ y) (y2 : y ≤ 2000) (w : World) :
    Calls Tryz.prog 34 #[.string (bs (A ++ [101] ++ Lib.itoa y))] w fun e w' => e = .returned (.int .i64 y) ∧ Below w.heap.size w w' := by
  have hRl := itoa_len y (by omega) (by omega)
  obtain ⟨c0, l0, hR0, hc0⟩ := itoa_head y
  have hfold := plF_itoa y y1 y2
  obtain ⟨R, hR⟩ : ∃ R, Lib.itoa y = R := ⟨_, rfl⟩
  rw [hR] at hRl hR0 hfold ⊢
  obtain ⟨T, hT⟩ : ∃ T, A ++ [101] ++ R = T := ⟨_, rfl⟩
  have hT1 : T = A ++ 101 :: R := by rw [← hT]; simp
  have hT2 : T = (A ++ [101]) ++ (R ++ []) := by rw [← hT]; simp
  have hRp : 1 ≤ R.length := by rw [hR0]; simp
  obtain ⟨k, hk⟩ : ∃ k, A.length = k := ⟨_, rfl⟩
  obtain ⟨m, hm⟩ : ∃ m, R.length = m := ⟨_, rfl⟩
  have hAk : ∀ j, j < k → by8 (bs T) j ≠ 101 := fun j hj => by
    rw [hT1, bs_by8, List.getD_eq_getElem?_getD, List.getElem?_append_left (by omega), List.getElem?_eq_getElem (by omega)]
    exact hA _ (List.getElem_mem _)
  have hk1 : by8 (bs T) k = 101 := by rw [← hk]; exact by8_hd hT1
  have hl1 : (A ++ [101]).length = k + 1 := by simp [hk]
  have hRj : ∀ j, j < m → by8 (bs T) (k + 1 + j) = R.getD j 0 := fun j hj => by
    have := by8_in hT2 (show j < R.length by omega)
    rw [hl1] at this
    rw [this, List.getD_eq_getElem?_getD, List.getElem?_eq_getElem (by omega)]; rfl
  have hr0 : by8 (bs T) (k + 1) = c0 := by
    have := hRj 0 (by omega)
    rw [Nat.add_zero, hR0] at this
    exact this
  have hsz : (bs T).size = k + 1 + m := by rw [bs_size, hT1, List.length_append, List.length_cons]; omega
  rw [hT]
  obtain ⟨S, hS⟩ : ∃ S, bs T = S := ⟨_, rfl⟩
  rw [hS] at hAk hk1 hRj hr0 hsz ⊢
  have HAk := Lib.hid hAk
  have HRj := Lib.hid hRj
  have HFo := Lib.hid (And.intro hfold hm)
  have HM := Lib.hid (show S.size = k + 1 + m ∧ 1 ≤ m ∧ m ≤ 20 ∧ k ≤ 1500 from ⟨hsz, by omega, by omega, by omega⟩)
  have HK1 := Lib.hid (And.intro hk1 hr0)
  have HC0 := Lib.hid hc0
  clear hAk hRj hfold hk1 hr0 hsz hc0 hR0 hR hT hT1 hT2 hRp hk hm hl1 hS hRl hA hAl
  go_enter Tryz.func34, Tryz.ntmps34
  go_wp2_with fail
  go_loopw [4] (fun iv wr => ∃ i : Nat, iv = .int .i64 (i : Int) ∧ i ≤ k ∧ Hid (Below w.heap.size w wr)) (fun iv _ => k - (intOf iv).toNat)
  case atStart => exact ⟨0, rfl, Nat.zero_le _, Lib.hid (Below.refl _ _)⟩
  case round =>
    obtain ⟨i, rfl, hi, HW⟩ := hrel
    have hin' : (i : Int) < (S.size : Int) := by have := HM.out; omega
    have hi0 : (0 : Int) ≤ (i : Int) := by omega
    have hix := run_byte S i (by have := HM.out; omega) (by have := HM.out; omega) wr
    by_cases hlt : i < k
    · have hne : ((((by8 S i).toNat : Nat) : Int) == 101) = false := by
        rw [beq_eq_false_iff_ne]
        intro e
        exact HAk.out i hlt (UInt8.toNat_inj.1 (by have : (101 : UInt8).toNat = 101 := rfl; omega))
      obtain ⟨z, hz⟩ : ∃ z, (((by8 S i).toNat : Nat) : Int) = z := ⟨_, rfl⟩
      rw [hz] at hix hne
      have hki : IntKind.i64.wrap ((i : Int) + 1) = (i : Int) + 1 := by have := HM.out; rw [IntKind.wrap_i64]; omega
      have HL := Lib.hid hlt
      clear hz hlt hi
      go_wp2_with fail
      go_roundw
      case rel => exact ⟨i + 1, by simp, HL.out, HW⟩
      case measure => have := HL.out; simp [intOf]; omega
    · have hik : i = k := by omega
      subst hik
      rw [HK1.out.1, show (((101 : UInt8).toNat : Nat) : Int) = 101 from rfl] at hix
      have hki : IntKind.i64.wrap ((i : Int) + 1) = (i : Int) + 1 := by have := HM.out; rw [IntKind.wrap_i64]; omega
      have hin2 : (i : Int) + 1 < (S.size : Int) := by have := HM.out; omega
      have hi20 : (0 : Int) ≤ (i : Int) + 1 := by omega
      have hix2 := run_byte S (i + 1) (by have := HM.out; omega) (by have := HM.out; omega) wr
      rw [HK1.out.2, show (((i + 1 : Nat)) : Int) = (i : Int) + 1 by omega] at hix2
      obtain ⟨ng, hng⟩ : ∃ ng : Bool, ((((c0.toNat : Nat) : Int)) == 45) = ng := ⟨_, rfl⟩
      have HNg := Lib.hid (show ng = decide (y < 0) by
        rw [← hng, Bool.eq_iff_iff, beq_iff_eq, decide_eq_true_eq, ← HC0.out, ← UInt8.toNat_inj]
        have : (45 : UInt8).toNat = 45 := rfl
        omega)
      obtain ⟨z, hz⟩ : ∃ z, ((c0.toNat : Nat) : Int) = z := ⟨_, rfl⟩
      rw [hz] at hix2 hng
      clear hz hlt hi HAk
      go_wp2_with fail
      go_loopw [3, 4] (fun nv iv wq => ∃ j : Nat, j ≤ m ∧ nv = .int .i64 (((R.take j).foldl plF 0 : Nat) : Int) ∧ iv = .int .i64 ((i + 1 + j : Nat) : Int) ∧ Hid (Below w.heap.size w wq)) (fun _ iv _ => i + 1 + m - (intOf iv).toNat)
      case atStart => exact ⟨0, Nat.zero_le _, rfl, by simp, HW⟩
      case round =>
        obtain ⟨j, hj, rfl, rfl, HWq⟩ := hrel
        by_cases hlt : j < m
        · have hin3 : ((i + 1 + j : Nat) : Int) < (S.size : Int) := by have := HM.out; omega
          have hi30 : (0 : Int) ≤ ((i + 1 + j : Nat) : Int) := by omega
          have hix3 := run_byte S (i + 1 + j) (by have := HM.out; omega) (by have := HM.out; omega) wr
          rw [HRj.out j hlt] at hix3
          have hdg := isDec_int (R.getD j 0)
          have hSt : (R.take (j + 1)).foldl plF 0 = plF ((R.take j).foldl plF 0) (R.getD j 0) := by
            rw [List.take_add_one, List.foldl_append, List.getD_eq_getElem?_getD, List.getElem?_eq_getElem (by rw [HFo.out.2]; exact hlt)]; rfl
          have hple := plF_fold_le (R.take j) 0 (by omega)
          obtain ⟨c, hc⟩ : ∃ c, R.getD j 0 = c := ⟨_, rfl⟩
          rw [hc] at hix3 hdg hSt
          have hcb : c.toNat ≤ 255 := by have := c.toNat_lt; omega
          have hdv : dgV c = c.toNat - 48 := rfl
          obtain ⟨n, hn⟩ : ∃ n, (R.take j).foldl plF 0 = n := ⟨_, rfl⟩
          rw [hn] at hSt hple ⊢
          obtain ⟨x, hx⟩ : ∃ x, c.toNat = x := ⟨_, rfl⟩
          rw [hx] at hix3 hdg hcb hdv
          obtain ⟨ii, hii⟩ : ∃ ii : Int, ((i + 1 + j : Nat) : Int) = ii := ⟨_, rfl⟩
          rw [hii] at hin3 hi30 hix3 ⊢
          have hkj : IntKind.i64.wrap (ii + 1) = ii + 1 := by have := HM.out; rw [IntKind.wrap_i64]; omega
          have HII := Lib.hid (show ii + 1 = ((i + 1 + (j + 1) : Nat) : Int) by omega)
          have HLt := Lib.hid hlt
          have HSt := Lib.hid hSt
          have HIv := Lib.hid hii
          clear hlt hj hc hn hx hii hSt
          by_cases y1 : (48 : Int) ≤ (x : Int)
          · by_cases y2 : (x : Int) ≤ 57
            · have HF := Lib.hid (show plF n c = min (10 * n + (x - 48)) 1048576 by unfold plF; rw [if_pos (by rw [hdg, decide_eq_true y1, decide_eq_true y2]; rfl), hdv])
              have g1 : 48 ≤ x := by omega
              have g2 : x ≤ 57 := by omega
              clear hdg hdv
              go_wp2_with fail
              go_roundw
              case rel => exact ⟨j + 1, HLt.out, by rw [HSt.out, HF.out]; congr 1; omega, congrArg (Value.int .i64) HII.out, HWq⟩
              case measure => have h1 := HII.out; have h2 := HIv.out; have := HLt.out; simp only [intOf]; omega
            · have y2d : decide ((x : Int) ≤ 57) = false := decide_eq_false y2
              have HF := Lib.hid (show plF n c = n by unfold plF; rw [if_neg (by rw [hdg, y2d, Bool.and_false]; decide)])
              clear hdg hdv
              go_wp2_with fail
              go_roundw
              case rel => exact ⟨j + 1, HLt.out, by rw [HSt.out, HF.out], congrArg (Value.int .i64) HII.out, HWq⟩
              case measure => have h1 := HII.out; have h2 := HIv.out; have := HLt.out; simp only [intOf]; omega
          · have y1d : decide ((48 : Int) ≤ (x : Int)) = false := decide_eq_false y1
            have HF := Lib.hid (show plF n c = n by unfold plF; rw [if_neg (by rw [hdg, y1d, Bool.false_and]; decide)])
            clear hdg hdv
            go_wp2_with fail
            go_roundw
            case rel => exact ⟨j + 1, HLt.out, by rw [HSt.out, HF.out], congrArg (Value.int .i64) HII.out, HWq⟩
            case measure => have h1 := HII.out; have h2 := HIv.out; have := HLt.out; simp only [intOf]; omega
        · have hjm : j = m := by omega
          subst hjm
          have hend : ¬ ((i + 1 + j : Nat) : Int) < (S.size : Int) := by have := HM.out; omega
          have hv : (R.take j).foldl plF 0 = y.natAbs := by rw [← HFo.out.2, List.take_length]; exact HFo.out.1
          rw [hv]
          obtain ⟨ii, hii⟩ : ∃ ii : Int, ((i + 1 + j : Nat) : Int) = ii := ⟨_, rfl⟩
          rw [hii] at hend ⊢
          obtain ⟨n, hn⟩ : ∃ n, y.natAbs = n := ⟨_, rfl⟩
          rw [hn]
          have hneg : IntKind.i64.wrap (-(n : Int)) = -(n : Int) := by rw [IntKind.wrap_i64]; omega
          have HN := Lib.hid hn
          clear hv hii hn hlt hj
          cases ng
          · have HE := Lib.hid (abs_pos HNg.out HN.out)
            go_wp2
            go_ret
            exact ⟨by rw [← HE.out]; rfl, HWq.out⟩
          · have HE := Lib.hid (abs_neg HNg.out HN.out)
            go_wp2
            go_ret
            exact ⟨by rw [← HE.out]; rfl, HWq.out⟩
end Go.Proofs.YtmfjimmodaofdaaGreatDoor
