/- Walk of gnomonref11: mantissa. · Walk of gnomonref11: exponent. · Walk of gnomonref11: Read. -/
import Derived.Test.YtmfjimmodaofdaaGreatDoorVn
import Derived.Test.YtmfjimmodaofdaaGreatDoorEf
namespace Go.Proofs.YtmfjimmodaofdaaGreatDoor
open Go.RowKit

theorem rt_stop (p : UInt8 → Bool) (s : ByteArray) (f i : Nat) (hf : s.size ≤ i + f) : ¬ (runTo p s f i < s.size ∧ p (by8 s (runTo p s f i)) = true) := by
  induction f generalizing i with
  | zero => unfold runTo; omega
  | succ f ih =>
    unfold runTo
    split
    · exact ih (i + 1) (by omega)
    · assumption
theorem dcE_stop (s : ByteArray) (i : Nat) (h : dcE s i < s.size) : isDec (by8 s (dcE s i)) = false := by
  have := rt_stop isDec s s.size i (by omega)
  cases e : isDec (by8 s (dcE s i))
  · rfl
  · exact absurd ⟨h, e⟩ this
theorem ext_next (s : ByteArray) (a j : Nat) (h1 : a ≤ j) (h2 : j < s.size) : (s.extract a (j + 1)).data.toList = (s.extract a j).data.toList ++ [by8 s j] := by
  rw [Lib.extract_data, Lib.extract_data, show j + 1 - a = (j - a) + 1 by omega, List.take_add_one]
  congr 1
  rw [List.getElem?_drop, show a + (j - a) = j by omega, List.getElem?_eq_getElem (by rw [Array.length_toList]; exact h2)]
  unfold by8
  rw [List.getD_eq_getElem?_getD, List.getElem?_eq_getElem (by rw [Array.length_toList]; exact h2)]
  rfl
theorem ext_none (s : ByteArray) (a : Nat) : (s.extract a a).data.toList = [] := by
  rw [Lib.extract_data, Nat.sub_self, List.take_zero]
/-- Where the reader's digits stand: before the point, behind it. -/
def mA (s : ByteArray) (i : Nat) (pt : Bool) : Nat := if pt then dcE s i + 1 else i
def mP (s : ByteArray) (i : Nat) (pt : Bool) : List UInt8 := if pt then (dW s i).data.toList else []
def mL (s : ByteArray) (i : Nat) (pt : Bool) (j : Nat) : List UInt8 := mP s i pt ++ (s.extract (mA s i pt) j).data.toList
def mB (s : ByteArray) (i : Nat) (pt : Bool) (j : Nat) : Nat := if pt then j - (dcE s i + 1) else 0
/-- Is there a digit? -/
def mS (s : ByteArray) (i : Nat) : Bool := decide ((dW s i).data.toList ++ (dP s i).data.toList ≠ [])
/-- What mantissa knows at j. -/
def MtS (s : ByteArray) (i : Nat) (pt : Bool) (j : Nat) : Prop := mA s i pt ≤ j ∧ j ≤ dcE s (mA s i pt) ∧ (pt = true → ptQ s i = true) ∧ mA s i pt ≤ s.size
theorem mL_next {s : ByteArray} {i j : Nat} {pt : Bool} (h : MtS s i pt j) (hj : j < s.size) : mL s i pt (j + 1) = mL s i pt j ++ [by8 s j] := by
  unfold mL; rw [ext_next s _ j h.1 hj, List.append_assoc]
theorem mL_all {s : ByteArray} {i j : Nat} {pt : Bool} (h : MtS s i pt j) (hi : i ≤ s.size) : (mL s i pt j).all dgQ = true ∧ (mL s i pt j).length ≤ s.size := by
  obtain ⟨h1, h2, h3, h4⟩ := h
  have hj : j ≤ s.size := Nat.le_trans h2 (runTo_le _ _ _ _ h4)
  have hb : (s.extract (mA s i pt) j).data.toList.all dgQ = true := ext_all s _ _ hj fun k k1 k2 => runTo_all isDec s s.size _ k k1 (Nat.lt_of_lt_of_le k2 h2)
  have hl : (s.extract (mA s i pt) j).data.toList.length = j - mA s i pt := by rw [Array.length_toList]; exact size_ext s _ j hj
  unfold mL mP
  cases pt
  · rw [if_neg (by decide), List.nil_append]
    exact ⟨hb, by rw [hl]; omega⟩
  · rw [if_pos rfl]
    refine ⟨by rw [List.all_append, dW_all s i hi, hb]; rfl, ?_⟩
    rw [List.length_append, hl]
    have e1 : (dW s i).data.toList.length = dcE s i - i := by rw [Array.length_toList]; exact size_ext s _ _ (dP_le s i hi).1
    have e2 : mA s i true = dcE s i + 1 := rfl
    rw [e1, e2]; omega
theorem mtS_next {s : ByteArray} {i j : Nat} {pt : Bool} (h : MtS s i pt j) (hj : j < dcE s (mA s i pt)) : MtS s i pt (j + 1) := ⟨by have := h.1; omega, by omega, h.2.2.1, h.2.2.2⟩
theorem mtS_point {s : ByteArray} {i j : Nat} (hj : j = dcE s i) (hs : j < s.size) (hc : by8 s j = 46) : MtS s i true (j + 1) ∧ mL s i true (j + 1) = mL s i false j := by
  have hq : ptQ s i = true := (ptQ_iff s i).2 ⟨by omega, by rw [← hj]; exact hc⟩
  have e2 : mA s i true = j + 1 := by rw [hj]; rfl
  refine ⟨⟨Nat.le_of_eq e2, by rw [e2]; exact runTo_ge _ _ _ _, fun _ => hq, by rw [e2]; omega⟩, ?_⟩
  unfold mL
  rw [e2, ext_none, List.append_nil]
  show (dW s i).data.toList = [] ++ (s.extract i j).data.toList
  rw [hj]; rfl
/-- Where it ends. -/
theorem mtS_end {s : ByteArray} {i j : Nat} {pt : Bool} (h : MtS s i pt j) (hj : j = dcE s (mA s i pt)) (hc : pt = false → ¬ (j < s.size ∧ by8 s j = 46)) :
    mL s i pt j = (dW s i).data.toList ++ (dP s i).data.toList ∧ mB s i pt j = (dP s i).size ∧ j = dK s i := by
  cases pt
  · have e : j = dcE s i := hj
    have hq : ¬ ptQ s i = true := fun hq => hc rfl (by have := (ptQ_iff s i).1 hq; rw [e]; exact this)
    unfold dP dK
    rw [if_neg hq, if_neg hq]
    refine ⟨?_, rfl, e⟩
    show [] ++ (s.extract i j).data.toList = (dW s i).data.toList ++ []
    rw [List.append_nil, e]; rfl
  · have e : j = dcE s (dcE s i + 1) := hj
    have hq := h.2.2.1 rfl
    unfold dP dK
    rw [if_pos hq, if_pos hq]
    refine ⟨?_, ?_, e⟩
    · show (dW s i).data.toList ++ (s.extract (dcE s i + 1) j).data.toList = _
      rw [e]
    · rw [size_ext _ _ _ (by have := runTo_le isDec s s.size _ h.2.2.2; exact this)]
      show j - (dcE s i + 1) = _
      rw [e]

set_option maxRecDepth 100000 in
set_option maxHeartbeats 2000000 in
theorem mantissa_walk (s : ByteArray) (i : Nat) (hi : i ≤ s.size) (hs : s.size ≤ 4000) (w : World) :
    Calls Tryz.prog 174 #[.string s, .int .i64 (i : Int)] w fun e w' => ∃ v, e = .returned (.tuple #[v, .int .i64 (((dP s i).size : Nat) : Int), .int .i64 ((dK s i : Nat) : Int), .bool (mS s i)]) ∧ DgAt w' v (dcV ((dW s i).data.toList ++ (dP s i).data.toList)) ∧ Below w.heap.size w w' := by
  have HW0 := Lib.hid (show Calls Tryz.prog 179 #[.int .u64 0] w fun e w' => ∃ v', e = .returned v' ∧ DgAt w' v' 0 ∧ Below w.heap.size w w' from rword_walk 0 (by decide) w)
  have HZ := Lib.hid (show MtS s i false i from ⟨Nat.le_refl _, runTo_ge _ _ _ _, (fun h => by cases h), hi⟩)
  have HZ2 := Lib.hid (show mL s i false i = [] from by unfold mL mP mA; rw [if_neg (by decide), if_neg (by decide), ext_none]; rfl)
  have HS := Lib.hid (And.intro hi hs)
  clear hi hs
  go_enter Tryz.func174, Tryz.ntmps174
  go_wp2_with fail
  refine HW0.out.mono ?_
  rintro r w1 ⟨v1, rfl, hd1, hb1⟩
  have HD1 := Lib.hid (show DgAt w1 v1 (dcV (mL s i false i)) by rw [HZ2.out]; exact hd1)
  have HB1 := Lib.hid hb1
  have HN := Lib.hid (show mL s i false i = [] from HZ2.out)
  clear hd1 hb1 HW0 HZ2
  go_wp2_with fail
  go_loopw [1, 8, 9, 10, 11] (fun iv dv bv sv pv wr => ∃ (pt : Bool) (j bh : Nat) (sm : Bool), iv = .int .i64 (j : Int) ∧ bv = .int .i64 (bh : Int) ∧ sv = .bool sm ∧ pv = .bool pt ∧ Hid (MtS s i pt j) ∧ Hid (bh = mB s i pt j) ∧ Hid (sm = decide (mL s i pt j ≠ [])) ∧ Hid (DgAt wr dv (dcV (mL s i pt j))) ∧ Hid (Below w.heap.size w wr)) (fun iv _ _ _ _ _ => s.size - (intOf iv).toNat)
  case atStart => exact ⟨false, i, 0, false, rfl, rfl, rfl, rfl, HZ, Lib.hid rfl, Lib.hid (by rw [HN.out]; rfl), HD1, HB1⟩
  case round =>
    obtain ⟨pt, j, bh, sm, rfl, rfl, rfl, rfl, HM, HBh, HSm, HD, HW⟩ := hrel
    have hjs : j ≤ s.size := Nat.le_trans HM.out.2.1 (runTo_le _ _ _ _ HM.out.2.2.2)
    by_cases hlt : j < dcE s (mA s i pt)
    · have hj : j < s.size := Nat.lt_of_lt_of_le hlt (runTo_le _ _ _ _ HM.out.2.2.2)
      have hdec : isDec (by8 s j) = true := runTo_all isDec s s.size _ j HM.out.1 hlt
      obtain ⟨n1, n2⟩ := isDec_range _ hdec
      have hix := fun w1 => run_byte s j hj (by have := HS.out.2; omega) w1
      have hlen : (toD (dcV (mL s i pt j))).length ≤ 50000 := by
        obtain ⟨a1, a2⟩ := mL_all HM.out HS.out.1
        rw [toD_length]
        have h1 := dcV_lt a1
        have h2 := blen_mono (Nat.le_of_lt h1)
        have h3 := blen_pow_ten (mL s i pt j).length
        have := HS.out.2
        omega
      have hval : dcV (mL s i pt (j + 1)) = dcV (mL s i pt j) * 10 + ((by8 s j).toNat - 48) := by rw [mL_next HM.out hj, dcV_snoc]; rfl
      have HSm2 := Lib.hid (show true = decide (mL s i pt (j + 1) ≠ []) by rw [mL_next HM.out hj]; simp)
      have HM2 := Lib.hid (mtS_next HM.out hlt)
      obtain ⟨n, hn⟩ : ∃ n, (by8 s j).toNat = n := ⟨_, rfl⟩
      simp only [hn] at hix n1 n2 hval
      have HDg := Lib.hid (fun W => show Calls Tryz.prog 206 #[.int .u8 (n : Int)] W fun e w' => e = .returned (.bool true) ∧ w' = W from by
        have := rdigit_walk n W
        rwa [decide_eq_true n1, decide_eq_true n2] at this)
      have HMu := Lib.hid (fun W v (h : DgAt W v (dcV (mL s i pt j))) => show Calls Tryz.prog 207 #[v, .int .u32 10, .int .u32 ((n - 48 : Nat) : Int)] W fun e w' => ∃ v', e = .returned v' ∧ DgAt w' v' (dcV (mL s i pt (j + 1))) ∧ Below W.heap.size W w' from by
        rw [hval]; exact rmul_walk v _ 10 (n - 48) W h (by omega) (by omega) hlen)
      have g0 : (j : Int) < (s.size : Int) := by omega
      have g1 : ((n : Int) == 46) = false := by rw [beq_eq_false_iff_ne]; omega
      have k1 : IntKind.u8.wrap ((n : Int) - 48) = ((n - 48 : Nat) : Int) := by rw [IntKind.wrap_u8]; omega
      have k2 : IntKind.u32.wrap ((n - 48 : Nat) : Int) = ((n - 48 : Nat) : Int) := by rw [IntKind.wrap_u32]; omega
      have k3 : IntKind.i64.wrap ((j : Int) + 1) = ((j + 1 : Nat) : Int) := by have := HS.out.2; rw [IntKind.wrap_i64]; omega
      have HJ := Lib.hid (show j < s.size from hj)
      obtain ⟨m, hm⟩ : ∃ m : Int, ((n - 48 : Nat) : Int) = m := ⟨_, rfl⟩
      rw [hm] at k1 k2 HMu
      have HB2 : pt = true → Hid (bh + 1 = mB s i true (j + 1)) := fun e => by
        subst e
        have h1 := HM.out.1
        have h2 : mA s i true = dcE s i + 1 := rfl
        exact Lib.hid (by rw [HBh.out]; show j - (dcE s i + 1) + 1 = j + 1 - (dcE s i + 1); omega)
      have kb : IntKind.i64.wrap ((bh : Int) + 1) = ((bh + 1 : Nat) : Int) := by
        have h1 := HBh.out
        have : bh ≤ j := by rw [h1]; unfold mB; split <;> omega
        have := HS.out.2
        rw [IntKind.wrap_i64]; omega
      clear hlt hj hdec n1 n2 hlen hval hn hm hjs HSm HM
      cases pt
      · have HB0 := Lib.hid (show bh = mB s i false (j + 1) from HBh.out)
        clear HB2 HBh kb
        go_wp2_with fail
        refine (HDg.out _).mono ?_
        rintro r w2 ⟨rfl, hw2⟩
        have e := hw2.symm
        subst e
        clear hw2 HDg
        go_wp2_with fail
        refine (HMu.out _ _ HD.out).mono ?_
        rintro r w3 ⟨v3, rfl, hd3, hb3⟩
        have HD3 := Lib.hid hd3
        have HW3 := Lib.hid (below_chain HW.out hb3)
        clear hd3 hb3 HMu HD
        go_wp2_with fail
        go_roundw
        case rel => exact ⟨false, j + 1, bh, true, rfl, rfl, rfl, rfl, HM2, HB0, HSm2, HD3, HW3⟩
        case measure => have := HJ.out; simp [intOf]; omega
      · have HB0 := HB2 rfl
        clear HB2 HBh
        go_wp2_with fail
        refine (HDg.out _).mono ?_
        rintro r w2 ⟨rfl, hw2⟩
        have e := hw2.symm
        subst e
        clear hw2 HDg
        go_wp2_with fail
        refine (HMu.out _ _ HD.out).mono ?_
        rintro r w3 ⟨v3, rfl, hd3, hb3⟩
        have HD3 := Lib.hid hd3
        have HW3 := Lib.hid (below_chain HW.out hb3)
        clear hd3 hb3 HMu HD
        go_wp2_with fail
        go_roundw
        case rel => exact ⟨true, j + 1, bh + 1, true, rfl, rfl, rfl, rfl, HM2, HB0, HSm2, HD3, HW3⟩
        case measure => have := HJ.out; simp [intOf]; omega
    · have hje : j = dcE s (mA s i pt) := Nat.le_antisymm HM.out.2.1 (Nat.le_of_not_lt hlt)
      by_cases hpt : pt = false ∧ j < s.size ∧ by8 s j = 46
      · obtain ⟨rfl, hj, hc⟩ := hpt
        obtain ⟨m1, m2⟩ := mtS_point (i := i) hje hj hc
        have HM2 := Lib.hid m1
        have HSm2 := Lib.hid (show sm = decide (mL s i true (j + 1) ≠ []) by rw [m2]; exact HSm.out)
        have HB2 := Lib.hid (show bh = mB s i true (j + 1) by rw [HBh.out]; have h1 : mA s i false = i := rfl; rw [h1] at hje; show 0 = j + 1 - (dcE s i + 1); omega)
        have hd2 := HD.out
        rw [← m2] at hd2
        have HD2 := Lib.hid hd2
        clear hd2
        have hix := fun w1 => run_byte s j hj (by have := HS.out.2; omega) w1
        rw [hc] at hix
        have g0 : (j : Int) < (s.size : Int) := by omega
        have k3 : IntKind.i64.wrap ((j : Int) + 1) = ((j + 1 : Nat) : Int) := by have := HS.out.2; rw [IntKind.wrap_i64]; omega
        have HJ := Lib.hid (show j < s.size from hj)
        clear hlt hje hj hc m1 m2 hjs HM HBh HSm HD
        go_wp2_with fail
        go_roundw
        case rel => exact ⟨true, j + 1, bh, sm, rfl, rfl, rfl, rfl, HM2, HB2, HSm2, HD2, HW⟩
        case measure => have := HJ.out; simp [intOf]; omega
      · obtain ⟨e1, e2, e3⟩ := mtS_end HM.out hje (fun h h2 => hpt ⟨h, h2⟩)
        have HL2 := Lib.hid e1
        have HBh2 := Lib.hid (show bh = (dP s i).size by rw [HBh.out]; exact e2)
        have HJ2 := Lib.hid e3
        have HSm2 := Lib.hid (show sm = mS s i by rw [HSm.out, e1]; rfl)
        by_cases hj : j < s.size
        · have hnd : isDec (by8 s j) = false := by rw [hje]; exact dcE_stop s _ (by rw [← hje]; exact hj)
          have hix := fun w1 => run_byte s j hj (by have := HS.out.2; omega) w1
          have h46 : pt = false → (by8 s j).toNat ≠ 46 := fun h e => hpt ⟨h, hj, UInt8.toNat_inj.1 e⟩
          have hnd2 : ¬ (48 ≤ (by8 s j).toNat ∧ (by8 s j).toNat ≤ 57) := fun h => by rw [(isDec_iff _).2 h] at hnd; exact absurd hnd (by decide)
          obtain ⟨n, hn⟩ : ∃ n, (by8 s j).toNat = n := ⟨_, rfl⟩
          simp only [hn] at hix h46 hnd2
          have HDg := Lib.hid (fun W => show Calls Tryz.prog 206 #[.int .u8 (n : Int)] W fun e w' => e = .returned (.bool false) ∧ w' = W from by
            have := rdigit_walk n W
            rwa [show (decide (48 ≤ n) && decide (n ≤ 57)) = false by simpa using hnd2] at this)
          have g0 : (j : Int) < (s.size : Int) := by omega
          clear hlt hje hj hpt hjs HM HBh HSm e1 e2 e3 hnd hnd2 hn
          cases pt
          · have g1 : ((n : Int) == 46) = false := by rw [beq_eq_false_iff_ne]; have := h46 rfl; omega
            clear h46
            go_wp2_with fail
            refine (HDg.out _).mono ?_
            rintro r w2 ⟨rfl, hw2⟩
            have e := hw2.symm
            subst e
            clear hw2 HDg
            go_wp2
            refine bodyPost_ret (v := .tuple #[_, .int .i64 (bh : Int), .int .i64 (j : Int), .bool sm]) (by simp [results, Tryz.results174, go_sem]; rfl) rfl ?_
            exact ⟨_, by rw [HSm2.out, HBh2.out, HJ2.out], by rw [← HL2.out]; exact HD.out, HW.out⟩
          · clear h46
            by_cases h46 : (n : Int) = 46
            · have g1 : ((n : Int) == 46) = true := by rw [beq_iff_eq]; exact h46
              clear h46
              go_wp2_with fail
              refine (HDg.out _).mono ?_
              rintro r w2 ⟨rfl, hw2⟩
              have e := hw2.symm
              subst e
              clear hw2 HDg
              go_wp2
              refine bodyPost_ret (v := .tuple #[_, .int .i64 (bh : Int), .int .i64 (j : Int), .bool sm]) (by simp [results, Tryz.results174, go_sem]; rfl) rfl ?_
              exact ⟨_, by rw [HSm2.out, HBh2.out, HJ2.out], by rw [← HL2.out]; exact HD.out, HW.out⟩
            · have g1 : ((n : Int) == 46) = false := by rw [beq_eq_false_iff_ne]; exact h46
              clear h46
              go_wp2_with fail
              refine (HDg.out _).mono ?_
              rintro r w2 ⟨rfl, hw2⟩
              have e := hw2.symm
              subst e
              clear hw2 HDg
              go_wp2
              refine bodyPost_ret (v := .tuple #[_, .int .i64 (bh : Int), .int .i64 (j : Int), .bool sm]) (by simp [results, Tryz.results174, go_sem]; rfl) rfl ?_
              exact ⟨_, by rw [HSm2.out, HBh2.out, HJ2.out], by rw [← HL2.out]; exact HD.out, HW.out⟩
        · have g0 : ¬ (j : Int) < (s.size : Int) := by omega
          clear hlt hje hj hpt hjs HM HBh HSm e1 e2 e3
          go_wp2
          refine bodyPost_ret (v := .tuple #[_, .int .i64 (bh : Int), .int .i64 (j : Int), .bool sm]) (by simp [results, Tryz.results174, go_sem]; rfl) rfl ?_
          exact ⟨_, by rw [HSm2.out, HBh2.out, HJ2.out], by rw [← HL2.out]; exact HD.out, HW.out⟩
end Go.Proofs.YtmfjimmodaofdaaGreatDoor

namespace Go.Proofs.YtmfjimmodaofdaaGreatDoor
open Go.RowKit

def far8 : Nat := 1073741824
/-- The number of m decimal digits from i on, far8 at most. -/
def evR (s : ByteArray) (i : Nat) : Nat → Nat
  | 0 => 0
  | m + 1 => min (10 * evR s i m + ((by8 s (i + m)).toNat - 48)) far8
theorem evR_le (s : ByteArray) (i m : Nat) : evR s i m ≤ far8 := by
  cases m with
  | zero => exact Nat.zero_le _
  | succ m => exact Nat.min_le_right _ _
/-- The program's number is this one, vast at most. -/
theorem ev_evR (s : ByteArray) (i m : Nat) : ev s i m = min (evR s i m) vast := by
  induction m with
  | zero => rfl
  | succ m ih =>
    show min (10 * ev s i m + ((by8 s (i + m)).toNat - 48)) vast = min (min (10 * evR s i m + ((by8 s (i + m)).toNat - 48)) far8) vast
    rw [ih]
    unfold vast far8
    omega
/-- What exponent answers. -/
def exR (s : ByteArray) (i : Nat) : Int := if sgB s i then -((evR s (sgI s i) (dcE s (sgI s i) - sgI s i) : Nat) : Int) else ((evR s (sgI s i) (dcE s (sgI s i) - sgI s i) : Nat) : Int)
def exO (s : ByteArray) (i : Nat) : Bool := decide (sgI s i < dcE s (sgI s i)) && decide (dcE s (sgI s i) = s.size)


set_option maxRecDepth 100000 in
set_option maxHeartbeats 4000000 in
theorem exponent_walk8 (s : ByteArray) (i : Nat) (hi : i ≤ s.size) (hs : s.size ≤ 4000) (w : World) :
    Calls Tryz.prog 175 #[.string s, .int .i64 (i : Int)] w fun e w' => e = .returned (.tuple #[.int .i64 (exR s i), .bool (exO s i)]) ∧ Below w.heap.size w w' := by
  have HS := Lib.hid (And.intro hi hs)
  have hcase : (i < s.size ∧ (by8 s i).toNat = 43 ∧ sgI s i = i + 1 ∧ sgB s i = false) ∨ (i < s.size ∧ (by8 s i).toNat = 45 ∧ sgI s i = i + 1 ∧ sgB s i = true) ∨ (i < s.size ∧ (by8 s i).toNat ≠ 43 ∧ (by8 s i).toNat ≠ 45 ∧ sgI s i = i ∧ sgB s i = false) ∨ (¬ i < s.size ∧ sgI s i = i ∧ sgB s i = false) := by
    unfold sgI sgB
    by_cases h : i < s.size
    · by_cases c1 : by8 s i = 43
      · left; rw [c1]; exact ⟨h, rfl, by simp [h], by simp⟩
      · by_cases c2 : by8 s i = 45
        · right; left; rw [c2]; exact ⟨h, rfl, by simp [h], by simp [h]⟩
        · right; right; left
          refine ⟨h, fun e => c1 (UInt8.toNat_inj.1 e), fun e => c2 (UInt8.toNat_inj.1 e), by simp [c1, c2], by simp [c2]⟩
    · right; right; right; exact ⟨h, by simp [h], by simp [h]⟩
  have hix : i < s.size → ∀ w1, (Instr.index 9 (.string s) (.int .i64 (i : Int))).run Tryz.prog w1 = .ok (.int .u8 ((by8 s i).toNat : Int)) w1 := fun h w1 => run_byte s i h (by omega) w1
  have HK := Lib.hid (sgI_le s i hi)
  have HX := Lib.hid (show exR s i = if sgB s i then -((evR s (sgI s i) (dcE s (sgI s i) - sgI s i) : Nat) : Int) else ((evR s (sgI s i) (dcE s (sgI s i) - sgI s i) : Nat) : Int) from rfl)
  have HO := Lib.hid (show exO s i = (decide (sgI s i < dcE s (sgI s i)) && decide (dcE s (sgI s i) = s.size)) from rfl)
  obtain ⟨k, hk⟩ : ∃ k, sgI s i = k := ⟨_, rfl⟩
  obtain ⟨ng, hng⟩ : ∃ ng, sgB s i = ng := ⟨_, rfl⟩
  obtain ⟨n, hn⟩ : ∃ n, (by8 s i).toNat = n := ⟨_, rfl⟩
  rw [hk] at HK HX HO
  rw [hng] at HX
  simp only [hk, hng, hn] at hcase hix
  obtain ⟨xr, hxr⟩ : ∃ x, exR s i = x := ⟨_, rfl⟩
  obtain ⟨xo, hxo⟩ : ∃ x, exO s i = x := ⟨_, rfl⟩
  rw [hxr] at HX ⊢
  rw [hxo] at HO ⊢
  clear hk hng hn hxr hxo
  rcases hcase with ⟨h, e1, e2, e3⟩ | ⟨h, e1, e2, e3⟩ | ⟨h, e1, e0, e2, e3⟩ | ⟨h, e2, e3⟩
  · subst e3
    have hix := hix h
    have g0 : (i : Int) < (s.size : Int) := by omega
    have g1 : ((n : Int) == 43) = true := by rw [beq_iff_eq]; omega
    have g2 : ((n : Int) == 45) = false := by rw [beq_eq_false_iff_ne]; omega
    have p1 : IntKind.i64.wrap ((i : Int) + 1) = (k : Int) := by rw [IntKind.wrap_i64]; omega
    clear h e1 e2 hi hs
    go_enter Tryz.func175, Tryz.ntmps175
    go_wp2_with fail
    clear hix g0 g1 g2 p1
    go_loopw [1, 7, 8] (fun iv ev sv wr => ∃ (j m : Nat) (sm : Bool), iv = .int .i64 (j : Int) ∧ ev = .int .i64 (m : Int) ∧ sv = .bool sm ∧ Hid (k ≤ j ∧ j ≤ dcE s k) ∧ Hid (m = evR s k (j - k)) ∧ Hid (sm = decide (k < j)) ∧ Hid (Below w.heap.size w wr)) (fun iv _ _ _ => s.size - (intOf iv).toNat)
    case atStart => exact ⟨k, 0, false, rfl, rfl, rfl, Lib.hid ⟨Nat.le_refl _, runTo_ge _ _ _ _⟩, Lib.hid (by rw [Nat.sub_self]; rfl), Lib.hid (by simp), Lib.hid (Below.refl _ _)⟩
    case round =>
      obtain ⟨j, m, sm, rfl, rfl, rfl, HJ, HM, HSm, HW⟩ := hrel
      have hds : dcE s k ≤ s.size := runTo_le _ _ _ _ HK.out
      have hmf : m ≤ 1073741824 := by rw [HM.out]; exact evR_le s k (j - k)
      by_cases hlt : j < dcE s k
      · have hj : j < s.size := by omega
        have hdec : isDec (by8 s j) = true := runTo_all isDec s s.size k j HJ.out.1 hlt
        obtain ⟨n1, n2⟩ := isDec_range _ hdec
        have hix := fun w1 => run_byte s j hj (by have := HS.out.2; omega) w1
        have hval : evR s k (j + 1 - k) = min (10 * m + ((by8 s j).toNat - 48)) 1073741824 := by
          have := HJ.out.1
          rw [HM.out, show j + 1 - k = (j - k) + 1 by omega]
          show min (10 * evR s k (j - k) + ((by8 s (k + (j - k))).toNat - 48)) far8 = _
          rw [show k + (j - k) = j by omega]; rfl
        obtain ⟨n, hn⟩ : ∃ n, (by8 s j).toNat = n := ⟨_, rfl⟩
        simp only [hn] at hix n1 n2 hval
        have HDg := Lib.hid (fun W => show Calls Tryz.prog 206 #[.int .u8 (n : Int)] W fun e w' => e = .returned (.bool true) ∧ w' = W from by
          have := rdigit_walk n W
          rwa [decide_eq_true n1, decide_eq_true n2] at this)
        obtain ⟨c, hc⟩ : ∃ c : Int, ((n - 48 : Nat) : Int) = c := ⟨_, rfl⟩
        obtain ⟨m2, hm2⟩ : ∃ m2 : Nat, min (10 * m + (n - 48)) 1073741824 = m2 := ⟨_, rfl⟩
        rw [hm2] at hval
        have k1 : IntKind.u8.wrap ((n : Int) - 48) = c := by rw [IntKind.wrap_u8]; omega
        have k2 : IntKind.i64.wrap c = c := by rw [IntKind.wrap_i64]; omega
        have k4 : IntKind.i64.wrap (10 * (m : Int)) = 10 * (m : Int) := by rw [IntKind.wrap_i64]; omega
        have k5 : IntKind.i64.wrap (10 * (m : Int) + c) = 10 * (m : Int) + c := by rw [IntKind.wrap_i64]; omega
        have k6 : min (10 * (m : Int) + c) 1073741824 = (m2 : Int) := by omega
        have k3 : IntKind.i64.wrap ((j : Int) + 1) = ((j + 1 : Nat) : Int) := by have := HS.out.2; rw [IntKind.wrap_i64]; omega
        have g0 : (j : Int) < (s.size : Int) := by omega
        have HJ2 := Lib.hid (show k ≤ j + 1 ∧ j + 1 ≤ dcE s k from ⟨by have := HJ.out.1; omega, hlt⟩)
        have HM2 := Lib.hid (show m2 = evR s k (j + 1 - k) from hval.symm)
        have HSm2 := Lib.hid (show true = decide (k < j + 1) by rw [decide_eq_true (by have := HJ.out.1; omega)])
        have HJs := Lib.hid (show j < s.size from hj)
        clear hds hmf hlt hj hdec n1 n2 hval hn hc hm2 HJ HM HSm
        go_wp2_with fail
        refine (HDg.out _).mono ?_
        rintro r w2 ⟨rfl, hw2⟩
        have e := hw2.symm
        subst e
        clear hw2 HDg
        go_wp2_with fail
        go_roundw
        case rel => exact ⟨j + 1, m2, true, rfl, rfl, rfl, HJ2, HM2, HSm2, HW⟩
        case measure => have := HJs.out; simp [intOf]; omega
      · have hje : j = dcE s k := Nat.le_antisymm HJ.out.2 (Nat.le_of_not_lt hlt)
        have HXr2 := Lib.hid (show xr = (m : Int) by rw [HX.out, HM.out, ← hje]; rfl)
        have HXo := Lib.hid (show xo = (sm && decide (j = s.size)) by rw [HO.out, HSm.out, ← hje])
        have kn : IntKind.i64.wrap (-(m : Int)) = -(m : Int) := by rw [IntKind.wrap_i64]; omega
        by_cases hj : j < s.size
        · have hnd : isDec (by8 s j) = false := by rw [hje]; exact dcE_stop s _ (by rw [← hje]; exact hj)
          have hix := fun w1 => run_byte s j hj (by have := HS.out.2; omega) w1
          have hnd2 : ¬ (48 ≤ (by8 s j).toNat ∧ (by8 s j).toNat ≤ 57) := fun h => by rw [(isDec_iff _).2 h] at hnd; exact absurd hnd (by decide)
          obtain ⟨n, hn⟩ : ∃ n, (by8 s j).toNat = n := ⟨_, rfl⟩
          simp only [hn] at hix hnd2
          have HDg := Lib.hid (fun W => show Calls Tryz.prog 206 #[.int .u8 (n : Int)] W fun e w' => e = .returned (.bool false) ∧ w' = W from by
            have := rdigit_walk n W
            rwa [show (decide (48 ≤ n) && decide (n ≤ 57)) = false by simpa using hnd2] at this)
          have HXo2 := Lib.hid (show xo = false by rw [HXo.out, decide_eq_false (by omega), Bool.and_false])
          have g0 : (j : Int) < (s.size : Int) := by omega
          have g3 : ((j : Int) == (s.size : Int)) = false := by rw [beq_eq_false_iff_ne]; omega
          clear hje hj hlt hds hmf hnd hnd2 hn HJ HM HSm HXo
          cases sm
          all_goals
            go_wp2_with fail
            refine (HDg.out _).mono ?_
            rintro r w2 ⟨rfl, hw2⟩
            have e := hw2.symm
            subst e
            clear hw2
            go_wp2
            go_ret2
            exact ⟨by rw [HXr2.out, HXo2.out]; rfl, HW.out⟩
        · have g0 : ¬ (j : Int) < (s.size : Int) := by omega
          have g3 : ((j : Int) == (s.size : Int)) = true := by rw [beq_iff_eq]; omega
          have HXo2 := Lib.hid (show xo = sm by rw [HXo.out, decide_eq_true (by omega), Bool.and_true])
          clear hje hj hlt hds hmf HJ HM HSm HXo
          cases sm
          all_goals
            go_wp2
            go_ret2
            exact ⟨by rw [HXr2.out, HXo2.out]; rfl, HW.out⟩
  · subst e3
    have hix := hix h
    have g0 : (i : Int) < (s.size : Int) := by omega
    have g1 : ((n : Int) == 43) = false := by rw [beq_eq_false_iff_ne]; omega
    have g2 : ((n : Int) == 45) = true := by rw [beq_iff_eq]; omega
    have p1 : IntKind.i64.wrap ((i : Int) + 1) = (k : Int) := by rw [IntKind.wrap_i64]; omega
    clear h e1 e2 hi hs
    go_enter Tryz.func175, Tryz.ntmps175
    go_wp2_with fail
    clear hix g0 g1 g2 p1
    go_loopw [1, 7, 8] (fun iv ev sv wr => ∃ (j m : Nat) (sm : Bool), iv = .int .i64 (j : Int) ∧ ev = .int .i64 (m : Int) ∧ sv = .bool sm ∧ Hid (k ≤ j ∧ j ≤ dcE s k) ∧ Hid (m = evR s k (j - k)) ∧ Hid (sm = decide (k < j)) ∧ Hid (Below w.heap.size w wr)) (fun iv _ _ _ => s.size - (intOf iv).toNat)
    case atStart => exact ⟨k, 0, false, rfl, rfl, rfl, Lib.hid ⟨Nat.le_refl _, runTo_ge _ _ _ _⟩, Lib.hid (by rw [Nat.sub_self]; rfl), Lib.hid (by simp), Lib.hid (Below.refl _ _)⟩
    case round =>
      obtain ⟨j, m, sm, rfl, rfl, rfl, HJ, HM, HSm, HW⟩ := hrel
      have hds : dcE s k ≤ s.size := runTo_le _ _ _ _ HK.out
      have hmf : m ≤ 1073741824 := by rw [HM.out]; exact evR_le s k (j - k)
      by_cases hlt : j < dcE s k
      · have hj : j < s.size := by omega
        have hdec : isDec (by8 s j) = true := runTo_all isDec s s.size k j HJ.out.1 hlt
        obtain ⟨n1, n2⟩ := isDec_range _ hdec
        have hix := fun w1 => run_byte s j hj (by have := HS.out.2; omega) w1
        have hval : evR s k (j + 1 - k) = min (10 * m + ((by8 s j).toNat - 48)) 1073741824 := by
          have := HJ.out.1
          rw [HM.out, show j + 1 - k = (j - k) + 1 by omega]
          show min (10 * evR s k (j - k) + ((by8 s (k + (j - k))).toNat - 48)) far8 = _
          rw [show k + (j - k) = j by omega]; rfl
        obtain ⟨n, hn⟩ : ∃ n, (by8 s j).toNat = n := ⟨_, rfl⟩
        simp only [hn] at hix n1 n2 hval
        have HDg := Lib.hid (fun W => show Calls Tryz.prog 206 #[.int .u8 (n : Int)] W fun e w' => e = .returned (.bool true) ∧ w' = W from by
          have := rdigit_walk n W
          rwa [decide_eq_true n1, decide_eq_true n2] at this)
        obtain ⟨c, hc⟩ : ∃ c : Int, ((n - 48 : Nat) : Int) = c := ⟨_, rfl⟩
        obtain ⟨m2, hm2⟩ : ∃ m2 : Nat, min (10 * m + (n - 48)) 1073741824 = m2 := ⟨_, rfl⟩
        rw [hm2] at hval
        have k1 : IntKind.u8.wrap ((n : Int) - 48) = c := by rw [IntKind.wrap_u8]; omega
        have k2 : IntKind.i64.wrap c = c := by rw [IntKind.wrap_i64]; omega
        have k4 : IntKind.i64.wrap (10 * (m : Int)) = 10 * (m : Int) := by rw [IntKind.wrap_i64]; omega
        have k5 : IntKind.i64.wrap (10 * (m : Int) + c) = 10 * (m : Int) + c := by rw [IntKind.wrap_i64]; omega
        have k6 : min (10 * (m : Int) + c) 1073741824 = (m2 : Int) := by omega
        have k3 : IntKind.i64.wrap ((j : Int) + 1) = ((j + 1 : Nat) : Int) := by have := HS.out.2; rw [IntKind.wrap_i64]; omega
        have g0 : (j : Int) < (s.size : Int) := by omega
        have HJ2 := Lib.hid (show k ≤ j + 1 ∧ j + 1 ≤ dcE s k from ⟨by have := HJ.out.1; omega, hlt⟩)
        have HM2 := Lib.hid (show m2 = evR s k (j + 1 - k) from hval.symm)
        have HSm2 := Lib.hid (show true = decide (k < j + 1) by rw [decide_eq_true (by have := HJ.out.1; omega)])
        have HJs := Lib.hid (show j < s.size from hj)
        clear hds hmf hlt hj hdec n1 n2 hval hn hc hm2 HJ HM HSm
        go_wp2_with fail
        refine (HDg.out _).mono ?_
        rintro r w2 ⟨rfl, hw2⟩
        have e := hw2.symm
        subst e
        clear hw2 HDg
        go_wp2_with fail
        go_roundw
        case rel => exact ⟨j + 1, m2, true, rfl, rfl, rfl, HJ2, HM2, HSm2, HW⟩
        case measure => have := HJs.out; simp [intOf]; omega
      · have hje : j = dcE s k := Nat.le_antisymm HJ.out.2 (Nat.le_of_not_lt hlt)
        have HXr2 := Lib.hid (show xr = -(m : Int) by rw [HX.out, HM.out, ← hje]; rfl)
        have HXo := Lib.hid (show xo = (sm && decide (j = s.size)) by rw [HO.out, HSm.out, ← hje])
        have kn : IntKind.i64.wrap (-(m : Int)) = -(m : Int) := by rw [IntKind.wrap_i64]; omega
        by_cases hj : j < s.size
        · have hnd : isDec (by8 s j) = false := by rw [hje]; exact dcE_stop s _ (by rw [← hje]; exact hj)
          have hix := fun w1 => run_byte s j hj (by have := HS.out.2; omega) w1
          have hnd2 : ¬ (48 ≤ (by8 s j).toNat ∧ (by8 s j).toNat ≤ 57) := fun h => by rw [(isDec_iff _).2 h] at hnd; exact absurd hnd (by decide)
          obtain ⟨n, hn⟩ : ∃ n, (by8 s j).toNat = n := ⟨_, rfl⟩
          simp only [hn] at hix hnd2
          have HDg := Lib.hid (fun W => show Calls Tryz.prog 206 #[.int .u8 (n : Int)] W fun e w' => e = .returned (.bool false) ∧ w' = W from by
            have := rdigit_walk n W
            rwa [show (decide (48 ≤ n) && decide (n ≤ 57)) = false by simpa using hnd2] at this)
          have HXo2 := Lib.hid (show xo = false by rw [HXo.out, decide_eq_false (by omega), Bool.and_false])
          have g0 : (j : Int) < (s.size : Int) := by omega
          have g3 : ((j : Int) == (s.size : Int)) = false := by rw [beq_eq_false_iff_ne]; omega
          clear hje hj hlt hds hmf hnd hnd2 hn HJ HM HSm HXo
          cases sm
          all_goals
            go_wp2_with fail
            refine (HDg.out _).mono ?_
            rintro r w2 ⟨rfl, hw2⟩
            have e := hw2.symm
            subst e
            clear hw2
            go_wp2
            go_ret2
            exact ⟨by rw [HXr2.out, HXo2.out]; rfl, HW.out⟩
        · have g0 : ¬ (j : Int) < (s.size : Int) := by omega
          have g3 : ((j : Int) == (s.size : Int)) = true := by rw [beq_iff_eq]; omega
          have HXo2 := Lib.hid (show xo = sm by rw [HXo.out, decide_eq_true (by omega), Bool.and_true])
          clear hje hj hlt hds hmf HJ HM HSm HXo
          cases sm
          all_goals
            go_wp2
            go_ret2
            exact ⟨by rw [HXr2.out, HXo2.out]; rfl, HW.out⟩
  · subst e3
    have hix := hix h
    subst e2
    have g0 : (k : Int) < (s.size : Int) := by omega
    have g1 : ((n : Int) == 43) = false := by rw [beq_eq_false_iff_ne]; omega
    have g2 : ((n : Int) == 45) = false := by rw [beq_eq_false_iff_ne]; omega
    clear h e1 e0 hi hs
    go_enter Tryz.func175, Tryz.ntmps175
    go_wp2_with fail
    clear hix g0 g1 g2
    go_loopw [1, 7, 8] (fun iv ev sv wr => ∃ (j m : Nat) (sm : Bool), iv = .int .i64 (j : Int) ∧ ev = .int .i64 (m : Int) ∧ sv = .bool sm ∧ Hid (k ≤ j ∧ j ≤ dcE s k) ∧ Hid (m = evR s k (j - k)) ∧ Hid (sm = decide (k < j)) ∧ Hid (Below w.heap.size w wr)) (fun iv _ _ _ => s.size - (intOf iv).toNat)
    case atStart => exact ⟨k, 0, false, rfl, rfl, rfl, Lib.hid ⟨Nat.le_refl _, runTo_ge _ _ _ _⟩, Lib.hid (by rw [Nat.sub_self]; rfl), Lib.hid (by simp), Lib.hid (Below.refl _ _)⟩
    case round =>
      obtain ⟨j, m, sm, rfl, rfl, rfl, HJ, HM, HSm, HW⟩ := hrel
      have hds : dcE s k ≤ s.size := runTo_le _ _ _ _ HK.out
      have hmf : m ≤ 1073741824 := by rw [HM.out]; exact evR_le s k (j - k)
      by_cases hlt : j < dcE s k
      · have hj : j < s.size := by omega
        have hdec : isDec (by8 s j) = true := runTo_all isDec s s.size k j HJ.out.1 hlt
        obtain ⟨n1, n2⟩ := isDec_range _ hdec
        have hix := fun w1 => run_byte s j hj (by have := HS.out.2; omega) w1
        have hval : evR s k (j + 1 - k) = min (10 * m + ((by8 s j).toNat - 48)) 1073741824 := by
          have := HJ.out.1
          rw [HM.out, show j + 1 - k = (j - k) + 1 by omega]
          show min (10 * evR s k (j - k) + ((by8 s (k + (j - k))).toNat - 48)) far8 = _
          rw [show k + (j - k) = j by omega]; rfl
        obtain ⟨n, hn⟩ : ∃ n, (by8 s j).toNat = n := ⟨_, rfl⟩
        simp only [hn] at hix n1 n2 hval
        have HDg := Lib.hid (fun W => show Calls Tryz.prog 206 #[.int .u8 (n : Int)] W fun e w' => e = .returned (.bool true) ∧ w' = W from by
          have := rdigit_walk n W
          rwa [decide_eq_true n1, decide_eq_true n2] at this)
        obtain ⟨c, hc⟩ : ∃ c : Int, ((n - 48 : Nat) : Int) = c := ⟨_, rfl⟩
        obtain ⟨m2, hm2⟩ : ∃ m2 : Nat, min (10 * m + (n - 48)) 1073741824 = m2 := ⟨_, rfl⟩
        rw [hm2] at hval
        have k1 : IntKind.u8.wrap ((n : Int) - 48) = c := by rw [IntKind.wrap_u8]; omega
        have k2 : IntKind.i64.wrap c = c := by rw [IntKind.wrap_i64]; omega
        have k4 : IntKind.i64.wrap (10 * (m : Int)) = 10 * (m : Int) := by rw [IntKind.wrap_i64]; omega
        have k5 : IntKind.i64.wrap (10 * (m : Int) + c) = 10 * (m : Int) + c := by rw [IntKind.wrap_i64]; omega
        have k6 : min (10 * (m : Int) + c) 1073741824 = (m2 : Int) := by omega
        have k3 : IntKind.i64.wrap ((j : Int) + 1) = ((j + 1 : Nat) : Int) := by have := HS.out.2; rw [IntKind.wrap_i64]; omega
        have g0 : (j : Int) < (s.size : Int) := by omega
        have HJ2 := Lib.hid (show k ≤ j + 1 ∧ j + 1 ≤ dcE s k from ⟨by have := HJ.out.1; omega, hlt⟩)
        have HM2 := Lib.hid (show m2 = evR s k (j + 1 - k) from hval.symm)
        have HSm2 := Lib.hid (show true = decide (k < j + 1) by rw [decide_eq_true (by have := HJ.out.1; omega)])
        have HJs := Lib.hid (show j < s.size from hj)
        clear hds hmf hlt hj hdec n1 n2 hval hn hc hm2 HJ HM HSm
        go_wp2_with fail
        refine (HDg.out _).mono ?_
        rintro r w2 ⟨rfl, hw2⟩
        have e := hw2.symm
        subst e
        clear hw2 HDg
        go_wp2_with fail
        go_roundw
        case rel => exact ⟨j + 1, m2, true, rfl, rfl, rfl, HJ2, HM2, HSm2, HW⟩
        case measure => have := HJs.out; simp [intOf]; omega
      · have hje : j = dcE s k := Nat.le_antisymm HJ.out.2 (Nat.le_of_not_lt hlt)
        have HXr2 := Lib.hid (show xr = (m : Int) by rw [HX.out, HM.out, ← hje]; rfl)
        have HXo := Lib.hid (show xo = (sm && decide (j = s.size)) by rw [HO.out, HSm.out, ← hje])
        have kn : IntKind.i64.wrap (-(m : Int)) = -(m : Int) := by rw [IntKind.wrap_i64]; omega
        by_cases hj : j < s.size
        · have hnd : isDec (by8 s j) = false := by rw [hje]; exact dcE_stop s _ (by rw [← hje]; exact hj)
          have hix := fun w1 => run_byte s j hj (by have := HS.out.2; omega) w1
          have hnd2 : ¬ (48 ≤ (by8 s j).toNat ∧ (by8 s j).toNat ≤ 57) := fun h => by rw [(isDec_iff _).2 h] at hnd; exact absurd hnd (by decide)
          obtain ⟨n, hn⟩ : ∃ n, (by8 s j).toNat = n := ⟨_, rfl⟩
          simp only [hn] at hix hnd2
          have HDg := Lib.hid (fun W => show Calls Tryz.prog 206 #[.int .u8 (n : Int)] W fun e w' => e = .returned (.bool false) ∧ w' = W from by
            have := rdigit_walk n W
            rwa [show (decide (48 ≤ n) && decide (n ≤ 57)) = false by simpa using hnd2] at this)
          have HXo2 := Lib.hid (show xo = false by rw [HXo.out, decide_eq_false (by omega), Bool.and_false])
          have g0 : (j : Int) < (s.size : Int) := by omega
          have g3 : ((j : Int) == (s.size : Int)) = false := by rw [beq_eq_false_iff_ne]; omega
          clear hje hj hlt hds hmf hnd hnd2 hn HJ HM HSm HXo
          cases sm
          all_goals
            go_wp2_with fail
            refine (HDg.out _).mono ?_
            rintro r w2 ⟨rfl, hw2⟩
            have e := hw2.symm
            subst e
            clear hw2
            go_wp2
            go_ret2
            exact ⟨by rw [HXr2.out, HXo2.out]; rfl, HW.out⟩
        · have g0 : ¬ (j : Int) < (s.size : Int) := by omega
          have g3 : ((j : Int) == (s.size : Int)) = true := by rw [beq_iff_eq]; omega
          have HXo2 := Lib.hid (show xo = sm by rw [HXo.out, decide_eq_true (by omega), Bool.and_true])
          clear hje hj hlt hds hmf HJ HM HSm HXo
          cases sm
          all_goals
            go_wp2
            go_ret2
            exact ⟨by rw [HXr2.out, HXo2.out]; rfl, HW.out⟩
  · subst e3
    clear hix
    subst e2
    have g0 : ¬ (k : Int) < (s.size : Int) := by omega
    clear h hi hs
    go_enter Tryz.func175, Tryz.ntmps175
    go_wp2_with fail
    clear g0
    go_loopw [1, 7, 8] (fun iv ev sv wr => ∃ (j m : Nat) (sm : Bool), iv = .int .i64 (j : Int) ∧ ev = .int .i64 (m : Int) ∧ sv = .bool sm ∧ Hid (k ≤ j ∧ j ≤ dcE s k) ∧ Hid (m = evR s k (j - k)) ∧ Hid (sm = decide (k < j)) ∧ Hid (Below w.heap.size w wr)) (fun iv _ _ _ => s.size - (intOf iv).toNat)
    case atStart => exact ⟨k, 0, false, rfl, rfl, rfl, Lib.hid ⟨Nat.le_refl _, runTo_ge _ _ _ _⟩, Lib.hid (by rw [Nat.sub_self]; rfl), Lib.hid (by simp), Lib.hid (Below.refl _ _)⟩
    case round =>
      obtain ⟨j, m, sm, rfl, rfl, rfl, HJ, HM, HSm, HW⟩ := hrel
      have hds : dcE s k ≤ s.size := runTo_le _ _ _ _ HK.out
      have hmf : m ≤ 1073741824 := by rw [HM.out]; exact evR_le s k (j - k)
      by_cases hlt : j < dcE s k
      · have hj : j < s.size := by omega
        have hdec : isDec (by8 s j) = true := runTo_all isDec s s.size k j HJ.out.1 hlt
        obtain ⟨n1, n2⟩ := isDec_range _ hdec
        have hix := fun w1 => run_byte s j hj (by have := HS.out.2; omega) w1
        have hval : evR s k (j + 1 - k) = min (10 * m + ((by8 s j).toNat - 48)) 1073741824 := by
          have := HJ.out.1
          rw [HM.out, show j + 1 - k = (j - k) + 1 by omega]
          show min (10 * evR s k (j - k) + ((by8 s (k + (j - k))).toNat - 48)) far8 = _
          rw [show k + (j - k) = j by omega]; rfl
        obtain ⟨n, hn⟩ : ∃ n, (by8 s j).toNat = n := ⟨_, rfl⟩
        simp only [hn] at hix n1 n2 hval
        have HDg := Lib.hid (fun W => show Calls Tryz.prog 206 #[.int .u8 (n : Int)] W fun e w' => e = .returned (.bool true) ∧ w' = W from by
          have := rdigit_walk n W
          rwa [decide_eq_true n1, decide_eq_true n2] at this)
        obtain ⟨c, hc⟩ : ∃ c : Int, ((n - 48 : Nat) : Int) = c := ⟨_, rfl⟩
        obtain ⟨m2, hm2⟩ : ∃ m2 : Nat, min (10 * m + (n - 48)) 1073741824 = m2 := ⟨_, rfl⟩
        rw [hm2] at hval
        have k1 : IntKind.u8.wrap ((n : Int) - 48) = c := by rw [IntKind.wrap_u8]; omega
        have k2 : IntKind.i64.wrap c = c := by rw [IntKind.wrap_i64]; omega
        have k4 : IntKind.i64.wrap (10 * (m : Int)) = 10 * (m : Int) := by rw [IntKind.wrap_i64]; omega
        have k5 : IntKind.i64.wrap (10 * (m : Int) + c) = 10 * (m : Int) + c := by rw [IntKind.wrap_i64]; omega
        have k6 : min (10 * (m : Int) + c) 1073741824 = (m2 : Int) := by omega
        have k3 : IntKind.i64.wrap ((j : Int) + 1) = ((j + 1 : Nat) : Int) := by have := HS.out.2; rw [IntKind.wrap_i64]; omega
        have g0 : (j : Int) < (s.size : Int) := by omega
        have HJ2 := Lib.hid (show k ≤ j + 1 ∧ j + 1 ≤ dcE s k from ⟨by have := HJ.out.1; omega, hlt⟩)
        have HM2 := Lib.hid (show m2 = evR s k (j + 1 - k) from hval.symm)
        have HSm2 := Lib.hid (show true = decide (k < j + 1) by rw [decide_eq_true (by have := HJ.out.1; omega)])
        have HJs := Lib.hid (show j < s.size from hj)
        clear hds hmf hlt hj hdec n1 n2 hval hn hc hm2 HJ HM HSm
        go_wp2_with fail
        refine (HDg.out _).mono ?_
        rintro r w2 ⟨rfl, hw2⟩
        have e := hw2.symm
        subst e
        clear hw2 HDg
        go_wp2_with fail
        go_roundw
        case rel => exact ⟨j + 1, m2, true, rfl, rfl, rfl, HJ2, HM2, HSm2, HW⟩
        case measure => have := HJs.out; simp [intOf]; omega
      · have hje : j = dcE s k := Nat.le_antisymm HJ.out.2 (Nat.le_of_not_lt hlt)
        have HXr2 := Lib.hid (show xr = (m : Int) by rw [HX.out, HM.out, ← hje]; rfl)
        have HXo := Lib.hid (show xo = (sm && decide (j = s.size)) by rw [HO.out, HSm.out, ← hje])
        have kn : IntKind.i64.wrap (-(m : Int)) = -(m : Int) := by rw [IntKind.wrap_i64]; omega
        by_cases hj : j < s.size
        · have hnd : isDec (by8 s j) = false := by rw [hje]; exact dcE_stop s _ (by rw [← hje]; exact hj)
          have hix := fun w1 => run_byte s j hj (by have := HS.out.2; omega) w1
          have hnd2 : ¬ (48 ≤ (by8 s j).toNat ∧ (by8 s j).toNat ≤ 57) := fun h => by rw [(isDec_iff _).2 h] at hnd; exact absurd hnd (by decide)
          obtain ⟨n, hn⟩ : ∃ n, (by8 s j).toNat = n := ⟨_, rfl⟩
          simp only [hn] at hix hnd2
          have HDg := Lib.hid (fun W => show Calls Tryz.prog 206 #[.int .u8 (n : Int)] W fun e w' => e = .returned (.bool false) ∧ w' = W from by
            have := rdigit_walk n W
            rwa [show (decide (48 ≤ n) && decide (n ≤ 57)) = false by simpa using hnd2] at this)
          have HXo2 := Lib.hid (show xo = false by rw [HXo.out, decide_eq_false (by omega), Bool.and_false])
          have g0 : (j : Int) < (s.size : Int) := by omega
          have g3 : ((j : Int) == (s.size : Int)) = false := by rw [beq_eq_false_iff_ne]; omega
          clear hje hj hlt hds hmf hnd hnd2 hn HJ HM HSm HXo
          cases sm
          all_goals
            go_wp2_with fail
            refine (HDg.out _).mono ?_
            rintro r w2 ⟨rfl, hw2⟩
            have e := hw2.symm
            subst e
            clear hw2
            go_wp2
            go_ret2
            exact ⟨by rw [HXr2.out, HXo2.out]; rfl, HW.out⟩
        · have g0 : ¬ (j : Int) < (s.size : Int) := by omega
          have g3 : ((j : Int) == (s.size : Int)) = true := by rw [beq_iff_eq]; omega
          have HXo2 := Lib.hid (show xo = sm by rw [HXo.out, decide_eq_true (by omega), Bool.and_true])
          clear hje hj hlt hds hmf HJ HM HSm HXo
          cases sm
          all_goals
            go_wp2
            go_ret2
            exact ⟨by rw [HXr2.out, HXo2.out]; rfl, HW.out⟩
end Go.Proofs.YtmfjimmodaofdaaGreatDoor

namespace Go.Proofs.YtmfjimmodaofdaaGreatDoor
open Go.RowKit

/-- What Read finds: its kind (0 nan, 1 inf, 2 a number), sign, digits, exponent. -/
def rdAt (s : ByteArray) : Option (Nat × Bool × Nat × Int) :=
  if s = nanS then some (0, false, 0, 0) else
  if s.extract (sgI s 0) s.size = infS then some (1, sgB s 0, 0, 0) else
  if mS s (sgI s 0) = false then none else
  if dK s (sgI s 0) < s.size then
    if isE s (dK s (sgI s 0)) = true then
      if exO s (dK s (sgI s 0) + 1) = true then some (2, sgB s 0, dcV ((dW s (sgI s 0)).data.toList ++ (dP s (sgI s 0)).data.toList), exR s (dK s (sgI s 0) + 1) - ((dP s (sgI s 0)).size : Int)) else none
    else none
  else some (2, sgB s 0, dcV ((dW s (sgI s 0)).data.toList ++ (dP s (sgI s 0)).data.toList), 0 - ((dP s (sgI s 0)).size : Int))
/-- What Read answers. -/
def RdOk (s : ByteArray) (e : Ending) (W : World) : Prop :=
  match rdAt s with
  | none => e = .returned (.tuple #[.agg #[.bool false, .bool false, .bool false, .slice none 0 0, .int .i64 0], .bool false])
  | some (k, ng, d, x) => ∃ v, e = .returned (.tuple #[.agg #[.bool ng, .bool (k == 1), .bool (k == 0), v, .int .i64 x], .bool true]) ∧ DgAt W v d
/-- What Read keeps: the result's box, its text's. -/
structure RdS (w W : World) (ng : Bool) : Prop where
  r0 : W.cell? ⟨w.heap.size, 0, none⟩ = some (.bool false)
  r1 : W.cell? ⟨w.heap.size, 1, none⟩ = some (.bool false)
  r2 : W.cell? ⟨w.heap.size, 2, none⟩ = some (.bool false)
  r3 : W.cell? ⟨w.heap.size, 3, none⟩ = some (.slice none 0 0)
  r4 : W.cell? ⟨w.heap.size, 4, none⟩ = some (.int .i64 0)
  t0 : W.cell? ⟨w.heap.size + 1, 0, none⟩ = some (.bool ng)
  t1 : W.cell? ⟨w.heap.size + 1, 1, none⟩ = some (.bool false)
  t2 : W.cell? ⟨w.heap.size + 1, 2, none⟩ = some (.bool false)
  t3 : W.cell? ⟨w.heap.size + 1, 3, none⟩ = some (.slice none 0 0)
  t4 : W.cell? ⟨w.heap.size + 1, 4, none⟩ = some (.int .i64 0)
  fr : ∀ j, W.frozen? ⟨w.heap.size, j, none⟩ = false
  ft : ∀ j, W.frozen? ⟨w.heap.size + 1, j, none⟩ = false
  sz : w.heap.size + 1 < W.heap.size
  bl : Below w.heap.size w W
theorem RdS.below {w W W2 : World} {ng : Bool} (h : RdS w W ng) (hb : Below W.heap.size W W2) : RdS w W2 ng := by
  have h1 := h.sz
  exact ⟨cell_kept hb h.r0, cell_kept hb h.r1, cell_kept hb h.r2, cell_kept hb h.r3, cell_kept hb h.r4, cell_kept hb h.t0, cell_kept hb h.t1, cell_kept hb h.t2, cell_kept hb h.t3, cell_kept hb h.t4,
    fun j => (hb.frozen (p := ⟨w.heap.size, j, none⟩) (by show w.heap.size < _; omega)).trans (h.fr j), fun j => (hb.frozen (p := ⟨w.heap.size + 1, j, none⟩) (by show w.heap.size + 1 < _; omega)).trans (h.ft j), Nat.lt_of_lt_of_le h1 hb.size, below_chain h.bl hb⟩
def set5 (W : World) (g : Nat) (v0 v1 v2 v3 v4 : Value) : World := ((((W.setCell ⟨g, 0, none⟩ v0).setCell ⟨g, 1, none⟩ v1).setCell ⟨g, 2, none⟩ v2).setCell ⟨g, 3, none⟩ v3).setCell ⟨g, 4, none⟩ v4
theorem set5_cells {W : World} {g : Nat} {x0 x1 x2 x3 x4 : Value} (h0 : W.cell? ⟨g, 0, none⟩ = some x0) (h1 : W.cell? ⟨g, 1, none⟩ = some x1) (h2 : W.cell? ⟨g, 2, none⟩ = some x2) (h3 : W.cell? ⟨g, 3, none⟩ = some x3) (h4 : W.cell? ⟨g, 4, none⟩ = some x4) (v0 v1 v2 v3 v4 : Value) :
    (set5 W g v0 v1 v2 v3 v4).cell? ⟨g, 0, none⟩ = some v0 ∧ (set5 W g v0 v1 v2 v3 v4).cell? ⟨g, 1, none⟩ = some v1 ∧ (set5 W g v0 v1 v2 v3 v4).cell? ⟨g, 2, none⟩ = some v2 ∧ (set5 W g v0 v1 v2 v3 v4).cell? ⟨g, 3, none⟩ = some v3 ∧ (set5 W g v0 v1 v2 v3 v4).cell? ⟨g, 4, none⟩ = some v4 := by
  unfold set5
  refine ⟨?_, ?_, ?_, ?_, ?_⟩
  · rw [cell_other (by simp), cell_other (by simp), cell_other (by simp), cell_other (by simp)]; exact World.cell?_setCell_same' _ _ _ (by rw [h0]; rfl)
  · rw [cell_other (by simp), cell_other (by simp), cell_other (by simp)]; exact World.cell?_setCell_same' _ _ _ (by rw [cell_other (by simp), h1]; rfl)
  · rw [cell_other (by simp), cell_other (by simp)]; exact World.cell?_setCell_same' _ _ _ (by rw [cell_other (by simp), cell_other (by simp), h2]; rfl)
  · rw [cell_other (by simp)]; exact World.cell?_setCell_same' _ _ _ (by rw [cell_other (by simp), cell_other (by simp), cell_other (by simp), h3]; rfl)
  · exact World.cell?_setCell_same' _ _ _ (by rw [cell_other (by simp), cell_other (by simp), cell_other (by simp), cell_other (by simp), h4]; rfl)
theorem set5_dg {W : World} {g : Nat} {v : Value} {a : Nat} (h : DgAt W v a) (h0 : W.cell? ⟨g, 0, none⟩ = some (.bool false)) (h1 : W.cell? ⟨g, 1, none⟩ = some (.bool false)) (h2 : W.cell? ⟨g, 2, none⟩ = some (.bool false)) (h3 : W.cell? ⟨g, 3, none⟩ = some (.slice none 0 0)) (h4 : W.cell? ⟨g, 4, none⟩ = some (.int .i64 0)) (v0 v1 v2 v3 v4 : Value) :
    DgAt (set5 W g v0 v1 v2 v3 v4) v a := by
  unfold set5
  have a0 := h.write8 h0 (fun x e => by cases e) v0
  have a1 := a0.write8 (p := ⟨g, 1, none⟩) (u := .bool false) (by rw [cell_other (by simp)]; exact h1) (fun x e => by cases e) v1
  have a2 := a1.write8 (p := ⟨g, 2, none⟩) (u := .bool false) (by rw [cell_other (by simp), cell_other (by simp)]; exact h2) (fun x e => by cases e) v2
  have a3 := a2.write8 (p := ⟨g, 3, none⟩) (u := .slice none 0 0) (by rw [cell_other (by simp), cell_other (by simp), cell_other (by simp)]; exact h3) (fun x e => by cases e) v3
  exact a3.write8 (p := ⟨g, 4, none⟩) (u := .int .i64 0) (by rw [cell_other (by simp), cell_other (by simp), cell_other (by simp), cell_other (by simp)]; exact h4) (fun x e => by cases e) v4
theorem set5_below {B : Nat} {w W : World} {g : Nat} (h : Below B w W) (hg : B ≤ g) (v0 v1 v2 v3 v4 : Value) : Below B w (set5 W g v0 v1 v2 v3 v4) :=
  ((((h.setCell (p := ⟨g, 0, none⟩) hg v0).setCell (p := ⟨g, 1, none⟩) hg v1).setCell (p := ⟨g, 2, none⟩) hg v2).setCell (p := ⟨g, 3, none⟩) hg v3).setCell (p := ⟨g, 4, none⟩) hg v4
/-- The text's number is laid down: what stands in its box. -/
def setT (W : World) (g : Nat) (v x : Value) : World := (W.setCell ⟨g, 3, none⟩ v).setCell ⟨g, 4, none⟩ x
theorem RdS.num {w W : World} {ng : Bool} (h : RdS w W ng) (v x : Value) :
    (setT W (w.heap.size + 1) v x).cell? ⟨w.heap.size + 1, 0, none⟩ = some (.bool ng) ∧ (setT W (w.heap.size + 1) v x).cell? ⟨w.heap.size + 1, 1, none⟩ = some (.bool false) ∧ (setT W (w.heap.size + 1) v x).cell? ⟨w.heap.size + 1, 2, none⟩ = some (.bool false) ∧ (setT W (w.heap.size + 1) v x).cell? ⟨w.heap.size + 1, 3, none⟩ = some v ∧ (setT W (w.heap.size + 1) v x).cell? ⟨w.heap.size + 1, 4, none⟩ = some x ∧
    (setT W (w.heap.size + 1) v x).cell? ⟨w.heap.size, 0, none⟩ = some (.bool false) ∧ (setT W (w.heap.size + 1) v x).cell? ⟨w.heap.size, 1, none⟩ = some (.bool false) ∧ (setT W (w.heap.size + 1) v x).cell? ⟨w.heap.size, 2, none⟩ = some (.bool false) ∧ (setT W (w.heap.size + 1) v x).cell? ⟨w.heap.size, 3, none⟩ = some (.slice none 0 0) ∧ (setT W (w.heap.size + 1) v x).cell? ⟨w.heap.size, 4, none⟩ = some (.int .i64 0) := by
  unfold setT
  refine ⟨?_, ?_, ?_, ?_, ?_, ?_, ?_, ?_, ?_, ?_⟩
  · rw [cell_other (by simp), cell_other (by simp)]; exact h.t0
  · rw [cell_other (by simp), cell_other (by simp)]; exact h.t1
  · rw [cell_other (by simp), cell_other (by simp)]; exact h.t2
  · rw [cell_other (by simp)]; exact World.cell?_setCell_same' _ _ _ (by rw [h.t3]; rfl)
  · exact World.cell?_setCell_same' _ _ _ (by rw [cell_other (by simp), h.t4]; rfl)
  · rw [cell_other (by simp), cell_other (by simp)]; exact h.r0
  · rw [cell_other (by simp), cell_other (by simp)]; exact h.r1
  · rw [cell_other (by simp), cell_other (by simp)]; exact h.r2
  · rw [cell_other (by simp), cell_other (by simp)]; exact h.r3
  · rw [cell_other (by simp), cell_other (by simp)]; exact h.r4
theorem RdS.numDg {w W : World} {ng : Bool} (h : RdS w W ng) {v : Value} {a : Nat} (hd : DgAt W v a) (x : Value) : DgAt (setT W (w.heap.size + 1) v x) v a := by
  unfold setT
  exact (hd.write8 h.t3 (fun x e => by cases e) v).write8 (p := ⟨w.heap.size + 1, 4, none⟩) (u := .int .i64 0) (by rw [cell_other (by simp)]; exact h.t4) (fun x e => by cases e) x
theorem RdS.numBl {w W : World} {ng : Bool} (h : RdS w W ng) (v x : Value) : Below w.heap.size w (setT W (w.heap.size + 1) v x) :=
  (h.bl.setCell (p := ⟨w.heap.size + 1, 3, none⟩) (Nat.le_succ _) v).setCell (p := ⟨w.heap.size + 1, 4, none⟩) (Nat.le_succ _) x
end Go.Proofs.YtmfjimmodaofdaaGreatDoor
