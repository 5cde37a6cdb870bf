/- Walk of natdiv: long. · Walk of natdiv: shifted. · Walk of nat: Cmp. · Walk of nat: Sub. · Walk of nat: MulWord. · Walk of nat: DivWord. · Walk of natdiv: QuoRem. -/
import Derived.Test.YtibjogbalmbeeaaGreatDoorU14
import Derived.Test.YtibjogbalmbeeaaGreatDoorU13
import Derived.BigQuiet
import Derived.Deep.LoopGhost
import Derived.WalkMore
import Derived.Test.YtibjogbalmbeeaaGreatDoorU11
import Derived.Test.YtibjogbalmbeeaaGreatDoorU03
import Derived.Test.YtibjogbalmbeeaaGreatDoorU10

namespace Go.Proofs.YtibjogbalmbeeaaGreatDoor
open Go.RowKit

theorem KB.over {g q : Nat} {w w' : World} (h : KB g w w') (hq : w.heap.size ≤ q) (i : Nat) (v : Value) : KB g w (w'.setCell ⟨q, i, none⟩ v) :=
  ⟨h.os, h.tape, h.output, by simpa [World.setCell] using h.size, fun k hk hkg => (Below.heap_setCell _ _ _ _ (show k ≠ q by omega)).trans (h.block k hk hkg)⟩
theorem pad_mod (n x : Nat) : pad n (x % W64 ^ n) = pad n x := by
  apply list_ext
  · simp [pad_length]
  · intro t ht
    rw [pad_length] at ht
    have e2 : W64 ^ n = W64 ^ t * W64 ^ (n - t) := by rw [← Nat.pow_add]; congr 1; omega
    have e3 : W64 ∣ W64 ^ (n - t) := by
      have : n - t = (n - t - 1) + 1 := by omega
      rw [this, Nat.pow_succ]; exact Nat.dvd_mul_left _ _
    rw [el_pad ht, el_pad ht, e2, Nat.mod_mul_right_div_self, Nat.mod_mod_of_dvd _ e3]

set_option maxRecDepth 100000 in
set_option maxHeartbeats 1000000 in
theorem long_walk (g m n cu cv U V : Nat) (A : Option Addr) (w : World) (hA : Rd g w A (pad n V)) (hz : Blk w g (pad m U)) (hn : 1 ≤ n) (hnm : n < m) (hm : m ≤ 20000) (hV : V < W64 ^ n) (hV1 : W64 ^ (n - 1) ≤ V) (hU : U < W64 ^ (m - n) * V) (hcu : m ≤ cu) (hcv : n ≤ cv) :
    Calls Tryz.prog 83 #[.slice (some ⟨g, 0, none⟩) m cu, .slice A n cv] w fun e w' => ∃ gq, e = .returned (.slice (some ⟨gq, 0, none⟩) (m - n : Nat) (m - n : Nat)) ∧ Blk w' gq (pad (m - n) (U / V)) ∧ w.heap.size ≤ gq ∧ Blk w' g (pad m (U % V)) ∧ KB g w w' := by
  have hV0 : 0 < V := Nat.lt_of_lt_of_le (Nat.pow_pos W64_pos) hV1
  obtain ⟨d, hd⟩ : ∃ d, m - n = d := ⟨_, rfl⟩
  obtain ⟨US, hUS⟩ : ∃ US : Nat → Nat, ∀ j, US j = U % (W64 ^ j * V) := ⟨fun j => U % (W64 ^ j * V), fun _ => rfl⟩
  obtain ⟨QS, hQS⟩ : ∃ QS : Nat → Nat, ∀ j, QS j = W64 ^ j * (U / (W64 ^ j * V)) := ⟨fun j => W64 ^ j * (U / (W64 ^ j * V)), fun _ => rfl⟩
  rw [hd] at hU
  have hUd : US d = U := by rw [hUS]; exact Nat.mod_eq_of_lt hU
  have hQd : QS d = 0 := by rw [hQS, Nat.div_eq_of_lt hU, Nat.mul_zero]
  have hU0 : US 0 = U % V := by rw [hUS, Nat.pow_zero, Nat.one_mul]
  have hQ0 : QS 0 = U / V := by rw [hQS, Nat.pow_zero, Nat.one_mul, Nat.one_mul]
  have hstep : ∀ j, j < d → ∃ R, US (j + 1) / W64 ^ j = R ∧ pad m (US (j + 1)) = pad j (US (j + 1)) ++ (pad (n + 1) R ++ pad (m - j - (n + 1)) 0) ∧ pad j (US (j + 1)) ++ (pad (n + 1) (R % V) ++ pad (m - j - (n + 1)) 0) = pad m (US j) ∧ (pad d (QS (j + 1))).set j (R / V) = pad d (QS j) ∧ R < W64 ^ (n + 1) ∧ R < W64 * V := fun j hj => by
    obtain ⟨h1, h2, h3, h4⟩ := long_pads (m := m) (n := n) (j := j) (U := U) (by omega) hV hV0
    refine ⟨U % (W64 ^ (j + 1) * V) / W64 ^ j, ?_, ?_, ?_, ?_, h3, h4⟩
    · rw [hUS]
    · rw [hUS]; exact h1
    · rw [hUS, hUS]; exact h2
    · rw [hQS, hQS, quo_set hj (by rw [Nat.div_lt_iff_lt_mul hV0]; exact h4), (long_step U V j hV0).2.1]
  have hPb : ∀ T, T < W64 → T * V ≤ W64 ^ (n + 1) := fun T hT => by
    rw [Nat.pow_succ, Nat.mul_comm]
    exact Nat.mul_le_mul (Nat.le_of_lt hV) (Nat.le_of_lt hT)
  have hmake := make_u64 d (by omega)
  have p1 : IntKind.i64.wrap ((m : Int) - (n : Int)) = (d : Int) := by rw [IntKind.wrap_i64]; omega
  have p2 : IntKind.i64.wrap ((d : Int) - 1) = (d : Int) - 1 := by rw [IntKind.wrap_i64]; omega
  have HA := Lib.hid hA
  have HZ := Lib.hid hz
  have HS := Lib.hid hstep
  have HP := Lib.hid hPb
  have HE := Lib.hid (show US d = U ∧ QS d = 0 ∧ US 0 = U % V ∧ QS 0 = U / V from ⟨hUd, hQd, hU0, hQ0⟩)
  have HM := Lib.hid (show m - n = d ∧ 1 ≤ n ∧ n < m ∧ m ≤ 20000 ∧ m ≤ cu ∧ n ≤ cv ∧ g < w.heap.size from ⟨hd, hn, hnm, hm, hcu, hcv, hz.lt⟩)
  have HV := Lib.hid (show V < W64 ^ n ∧ W64 ^ (n - 1) ≤ V ∧ 0 < V from ⟨hV, hV1, hV0⟩)
  rw [hd]
  clear hA hz hstep hPb hUd hQd hU0 hQ0 hd hn hnm hm hcu hcv hV hV1 hV0 hU hUS hQS
  go_enter Tryz.func83, Tryz.ntmps83
  go_wp2
  go_step3
  go_wp2
  go_step3
  go_wp2_with fail
  go_loopg [7] d (fun jj jv wr => jj ≤ d ∧ jv = .int .i64 ((jj : Int) - 1) ∧ Hid (Blk wr g (pad m (US jj))) ∧ Hid (Blk wr w.heap.size (pad d (QS jj))) ∧ Hid (KB g w wr))
  case atStart =>
    refine ⟨Nat.le_refl _, rfl, Lib.hid ?_, Lib.hid ?_, Lib.hid (KB.of (below_alloc' w _))⟩
    · rw [HE.out.1]; exact HZ.out.below (below_alloc' w _)
    · rw [HE.out.2.1, pad_zero_rep]; exact Blk.new w _
  case round =>
    obtain ⟨hjj, hjv, HU, HQ, HK⟩ := hrel
    cases gk with
    | zero =>
      subst hjv
      have hU := HU.out
      have hQ := HQ.out
      rw [HE.out.2.2.1] at hU
      rw [HE.out.2.2.2] at hQ
      have HU2 := Lib.hid hU
      have HQ2 := Lib.hid hQ
      clear hU hQ
      go_wp2
      try rw [Exit.noGoto_ret]
      go_ret
      exact ⟨w.heap.size, rfl, HQ2.out, Nat.le_refl _, HU2.out, HK.out⟩
    | succ j =>
      have hj2 : u7 = .int .i64 (j : Int) := by rw [hjv]; congr 1; omega
      subst hj2
      clear hjv
      obtain ⟨R, hR, s1, s2, s3, s4, s5⟩ := HS.out j (by omega)
      have hM := HM.out
      have hV := HV.out
      obtain ⟨t1, t2⟩ := trial_digit hM.2.1 s4 s5 hV.1 hV.2.1
      obtain ⟨hi, hhi⟩ : ∃ hi, R / W64 ^ n % W64 = hi := ⟨_, rfl⟩
      obtain ⟨lo, hlo⟩ : ∃ lo, R / W64 ^ (n - 1) % W64 = lo := ⟨_, rfl⟩
      obtain ⟨dd, hdd⟩ : ∃ dd, V / W64 ^ (n - 1) % W64 = dd := ⟨_, rfl⟩
      obtain ⟨a, ha⟩ : ∃ a, j + n = a := ⟨_, rfl⟩
      obtain ⟨b, hb⟩ : ∃ b, j + (n - 1) = b := ⟨_, rfl⟩
      obtain ⟨n1, hn1⟩ : ∃ n1, n - 1 = n1 := ⟨_, rfl⟩
      have hT1 := HU.out
      have c1 := hT1.cell (j := a) (by rw [pad_length]; omega)
      have c2 := hT1.cell (j := b) (by rw [pad_length]; omega)
      rw [el_pad (by omega), ← ha, Nat.pow_add, ← Nat.div_div_eq_div_mul, hR, hhi, ha] at c1
      rw [el_pad (by omega), ← hb, Nat.pow_add, ← Nat.div_div_eq_div_mul, hR, hlo, hb] at c2
      obtain ⟨ada, rfl, hga, hca0⟩ := HA.out (by rw [pad_length]; omega)
      have c3 := HK.out.cell (hca0 n1 (by rw [pad_length]; omega)) (by rw [add_block]; exact hga)
      rw [el_pad (by omega), ← hn1, hdd, hn1] at c3
      have hTr := fun W => trial_walk hi lo dd (by rw [← hlo]; exact Nat.mod_lt _ W64_pos) (by rw [← hdd]; exact Nat.mod_lt _ W64_pos) W
      rw [hhi, hlo, hdd] at t1 t2
      obtain ⟨T, hT⟩ : ∃ T, (if dd ≤ hi then W64 - 1 else (hi * W64 + lo) / dd : Nat) = T := ⟨_, rfl⟩
      simp only [hT] at hTr t1 t2
      have HTr := Lib.hid hTr
      have q1 : IntKind.i64.wrap ((j : Int) + (n : Int)) = (a : Int) := by rw [IntKind.wrap_i64]; omega
      have q2 : IntKind.i64.wrap ((a : Int) - 1) = (b : Int) := by rw [IntKind.wrap_i64]; omega
      have q3 : IntKind.i64.wrap ((n : Int) - 1) = (n1 : Int) := by rw [IntKind.wrap_i64]; omega
      obtain ⟨en, hen⟩ : ∃ en, a + 1 = en := ⟨_, rfl⟩
      have q4 : IntKind.i64.wrap ((a : Int) + 1) = (en : Int) := by rw [IntKind.wrap_i64]; omega
      have q5 : (j : Int) ≤ (en : Int) := by omega
      have q6 : (en : Int) ≤ (cu : Int) := by omega
      have q7 : ¬ cu = j := by omega
      have q8 : (a : Int) < (m : Int) := by omega
      have q9 : (b : Int) < (m : Int) := by omega
      have q10 : (n1 : Int) < (n : Int) := by omega
      have q11 : en - j = n + 1 := by omega
      have hqd : (j : Int) < (d : Int) := by omega
      obtain ⟨pc, hpc⟩ : ∃ pc, cu - j = pc := ⟨_, rfl⟩
      have HC := Lib.hid (show n + 1 ≤ pc ∧ j ≤ 20000 ∧ j < d by omega)
      have HR := Lib.hid (show R < W64 ^ (n + 1) ∧ R / V ≤ T ∧ T < W64 from ⟨s4, t1, t2⟩)
      have hUb := hT1
      rw [s1] at hUb
      obtain ⟨pre, hpre⟩ : ∃ pre, pad j (US (j + 1)) = pre := ⟨_, rfl⟩
      obtain ⟨post, hpost⟩ : ∃ post, pad (m - j - (n + 1)) 0 = post := ⟨_, rfl⟩
      have hpl : pre.length = j := by rw [← hpre, pad_length]
      rw [hpre, hpost] at hUb s2
      have HUb := Lib.hid hUb
      have HS2 := Lib.hid s2
      have HS3 := Lib.hid s3
      have HPl := Lib.hid hpl
      clear hT1 hTr hT hUb s1 s2 s3 s4 s5 t1 t2 hhi hlo hdd ha hb hn1 hen hM hV hR hpre hpost hpl hca0 hga HU hjj
      go_wp2_with fail
      go_quiet ((go_at_call 130; exact Calls.quiet_of (HTr.out _)))
      go_wp2_with fail
      refine (takeMul_walk g j pc pre post (some ada) n cv V R T _ HPl.out (HA.out.kb (HK.out.dn _)) HV.out.1 HM.out.2.2.2.2.2.1 (HUb.out.dn _) HR.out.1 HR.out.2.2 HC.out.1 (by have := HM.out; omega) HC.out.2.1).mono ?_
      rintro e w5 ⟨rfl, hz5, hk5⟩
      have HQ5 := Lib.hid (show Blk w5 w.heap.size (pad d (QS (j + 1))) from (HQ.out.dn _).kb hk5 (by have := HM.out; omega))
      have HK5 := Lib.hid ((HK.out.dn _).trans hk5)
      have HBb := Lib.hid (HP.out T HR.out.2.2)
      clear hk5 HQ HK HUb
      by_cases hlt : R < T * V
      · rw [if_pos hlt]
        have hx := HR.out.1
        rw [Nat.mod_eq_of_lt (show R + (W64 ^ (n + 1) - T * V) < W64 ^ (n + 1) by have := HBb.out; omega)] at hz5
        have HZ5 := Lib.hid hz5
        have HI := Lib.hid hlt
        clear hz5 hlt hx
        go_wp2_with fail
        go_loopg [8] T (fun k wv wx => wv = .int .u64 (k : Int) ∧ Hid (k < W64 ∧ R < k * V ∧ k * V ≤ W64 ^ (n + 1)) ∧ Hid (Blk wx g (pre ++ (pad (n + 1) (R + (W64 ^ (n + 1) - k * V)) ++ post))) ∧ Hid (Blk wx w.heap.size (pad d (QS (j + 1)))) ∧ Hid (KB g w wx))
        case atStart => exact ⟨rfl, Lib.hid ⟨HR.out.2.2, HI.out, HBb.out⟩, HZ5, HQ5, HK5⟩
        case round =>
          obtain ⟨hk, HI2, HZ2, HQ2, HK2⟩ := hrel
          subst hk
          have hI := HI2.out
          obtain ⟨b1, b2, b3⟩ := digit_back HV.out.2.2 HR.out.1 hI.2.2 hI.2.1
          obtain ⟨k, rfl⟩ : ∃ k, gk = k + 1 := ⟨gk - 1, by omega⟩
          rw [Nat.add_sub_cancel] at b2 b3
          have hX := hI.2
          have hk64 := hI.1
          rw [W64_num] at hk64
          have e1 : IntKind.u64.wrap (((k + 1 : Nat) : Int) - 1) = (k : Int) := by rw [IntKind.wrap_u64]; omega
          have e1' : IntKind.u64.wrap (k : Int) = (k : Int) := by rw [IntKind.wrap_u64]; omega
          have hXl : R + (W64 ^ (n + 1) - (k + 1) * V) < W64 ^ (n + 1) := by omega
          have HB2 := Lib.hid b2
          have HB3 := Lib.hid b3
          have HK64 := Lib.hid (show k < W64 by have := hI.1; omega)
          have HXl := Lib.hid hXl
          clear b1 b2 b3 hX hk64 hXl hI HZ5 HQ5 HK5
          go_wp2_with fail
          refine (giveBack_walk g j pc pre post (some ada) n cv V _ _ HPl.out (HA.out.kb HK2.out) HV.out.1 HM.out.2.2.2.2.2.1 HZ2.out HXl.out HC.out.1 (by have := HM.out; omega) HC.out.2.1).mono ?_
          rintro e w6 ⟨rfl, hz6, hk6⟩
          have HQ6 := Lib.hid (show Blk w6 w.heap.size (pad d (QS (j + 1))) from HQ2.out.kb hk6 (by have := HM.out; omega))
          have HK6 := Lib.hid (HK2.out.trans hk6)
          by_cases hl2 : R < k * V
          · obtain ⟨f1, f2, f3, f4⟩ := HB2.out hl2
            rw [f1]
            rw [f2] at hz6
            have HZ6 := Lib.hid hz6
            have HI3 := Lib.hid (show k < W64 ∧ R < k * V ∧ k * V ≤ W64 ^ (n + 1) from ⟨HK64.out, hl2, f4⟩)
            clear hz6 hk6 hl2 f1 f2 f3 f4
            go_wp2_with fail
            go_roundg k
            case rel => exact ⟨rfl, HI3, HZ6, HQ6, HK6⟩
            case measure => omega
          · obtain ⟨f1, f2, f3⟩ := HB3.out hl2
            rw [f1]
            rw [← pad_mod, f2, HS2.out] at hz6
            have HZ6 := Lib.hid hz6
            have hst := HQ6.out.set j k
            have c4 := HQ6.out.cell (j := j) (by rw [pad_length]; exact HC.out.2.2)
            have f4 := HQ6.out.frozen j
            rw [f3, HS3.out, ← f3] at hst
            have HSt := Lib.hid hst
            have HKs := Lib.hid (HK6.out.over (Nat.le_refl _) j (.int .u64 (k : Int)))
            have HZs := Lib.hid (HZ6.out.far (p := ⟨w.heap.size, j, none⟩) (show g ≠ w.heap.size by have := HM.out; omega) (.int .u64 (k : Int)))
            have e2 : IntKind.i64.wrap ((j : Int) - 1) = (j : Int) - 1 := by have := HC.out; rw [IntKind.wrap_i64]; omega
            have HJ := Lib.hid (show j ≤ d by have := HC.out; omega)
            clear hz6 hk6 hl2 f1 f2 f3 hst HQ6 HK6 HZ6 HZ2 HQ2 HK2
            go_wp2_with fail
            go_roundg j
            case rel => exact ⟨HJ.out, rfl, HZs, HSt, HKs⟩
            case measure => omega
      · rw [if_neg hlt]
        obtain ⟨f1, f2⟩ := digit_hit HV.out.2.2 HR.out.1 HBb.out HR.out.2.1 hlt
        rw [f2, HS2.out] at hz5
        have HZ6 := Lib.hid hz5
        have hst := HQ5.out.set j T
        have c4 := HQ5.out.cell (j := j) (by rw [pad_length]; exact HC.out.2.2)
        have f4 := HQ5.out.frozen j
        rw [f1, HS3.out, ← f1] at hst
        have HSt := Lib.hid hst
        have HKs := Lib.hid (HK5.out.over (Nat.le_refl _) j (.int .u64 (T : Int)))
        have HZs := Lib.hid (HZ6.out.far (p := ⟨w.heap.size, j, none⟩) (show g ≠ w.heap.size by have := HM.out; omega) (.int .u64 (T : Int)))
        have e2 : IntKind.i64.wrap ((j : Int) - 1) = (j : Int) - 1 := by have := HC.out; rw [IntKind.wrap_i64]; omega
        have HJ := Lib.hid (show j ≤ d by have := HC.out; omega)
        clear hz5 hlt f1 f2 hst HQ5 HK5 HZ6
        go_wp2_with fail
        go_roundg j
        case rel => exact ⟨HJ.out, rfl, HZs, HSt, HKs⟩
        case measure => omega
end Go.Proofs.YtibjogbalmbeeaaGreatDoor

namespace Go.Proofs.YtibjogbalmbeeaaGreatDoor
open Go.RowKit

set_option maxRecDepth 100000 in
set_option maxHeartbeats 1000000 in
theorem shifted_walk (A : Option Addr) (la ca a s n : Nat) (w : World) (hA : RdU w A (toL a)) (hla : (toL a).length = la) (hln : la ≤ n) (hn : n ≤ 60000) (hs : s < 64) :
    Calls Tryz.prog 82 #[.slice A la ca, .int .i64 (s : Int), .int .i64 (n : Int)] w fun e w' => e = .returned (.slice (some ⟨w.heap.size, 0, none⟩) n n) ∧ Blk w' w.heap.size (pad n (a * 2 ^ s)) ∧ Below w.heap.size w w' := by
  have hmake := make_u64 n (by omega)
  have hpa : toL a ++ List.replicate (n - la) 0 = pad n a := by rw [pad_app (by omega), hla]
  have hA1 := (hA.away (Nat.le_refl _)).kb (KB.of (below_alloc' w (.cells (U (List.replicate n 0)) 23)))
  have hB1 := Blk.new w (List.replicate n 0)
  have hb1 := below_alloc' w (.cells (U (List.replicate n 0)) 23)
  have HA := Lib.hid hA1
  have HB := Lib.hid hB1
  have HW := Lib.hid hb1
  have HP := Lib.hid hpa
  have HM := Lib.hid (show (toL a).length = la ∧ la ≤ n ∧ n ≤ 60000 ∧ s < 64 from ⟨hla, hln, hn, hs⟩)
  obtain ⟨X, hX⟩ : ∃ X, a * 2 ^ s = X := ⟨_, rfl⟩
  rw [hX]
  have HX := Lib.hid hX
  by_cases h0 : s = 0
  · subst h0
    have ha : X = a := by rw [← hX]; simp
    subst ha
    clear hA hla hln hn hs hpa hA1 hB1 hb1 hX HX
    go_enter Tryz.func82, Tryz.ntmps82
    go_wp2_with (with_reducible refine wpList_copy_u rfl (.tmp 12) (.tmp 13) rfl w.heap.size n n la ca A rfl rfl (toL X) (List.replicate n 0) HM.out.1 HM.out.2.1 HB.out (by rw [List.length_replicate]; exact HM.out.2.1) HA.out ?_)
    intro w1 hz1 hk1
    have HZ := Lib.hid (show Blk w1 w.heap.size (pad n X) by rw [← HP.out]; exact hz1.out)
    have HK := Lib.hid (show Below w.heap.size w w1 from HW.out.trans (hk1.out.below (Nat.le_refl _) HW.out.size))
    clear hz1 hk1
    go_wp2_with fail
    go_ret
    exact ⟨rfl, HZ.out, HK.out⟩
  · have hsb : ((s : Int) == 0) = false := by rw [beq_eq_false_iff_ne]; omega
    have HS := Lib.hid h0
    clear hA hla hln hn hs hpa hA1 hB1 hb1 hX h0
    go_enter Tryz.func82, Tryz.ntmps82
    go_wp2_with (with_reducible refine wpList_copy_u rfl (.tmp 12) (.tmp 13) rfl w.heap.size n n la ca A rfl rfl (toL a) (List.replicate n 0) HM.out.1 HM.out.2.1 HB.out (by rw [List.length_replicate]; exact HM.out.2.1) HA.out ?_)
    intro w1 hz1 hk1
    have HZ := Lib.hid (show Blk w1 w.heap.size (mix n 0 X a) by rw [mix_zero, ← HP.out]; exact hz1.out)
    have HK := Lib.hid (show Below w.heap.size w w1 from HW.out.trans (hk1.out.below (Nat.le_refl _) HW.out.size))
    clear hz1 hk1
    go_wp2_with fail
    go_loopw [8, 20] (fun cy i wr => ∃ t : Nat, t ≤ n ∧ i = .int .i64 (t : Int) ∧ cy = .int .u64 ((mc 0 a (2 ^ s) t : Nat) : Int) ∧ Hid (Blk wr w.heap.size (mix n t X a)) ∧ Hid (Below w.heap.size w wr)) (fun _ i _ => n - (intOf i).toNat)
    case atStart => exact ⟨0, by omega, rfl, by rw [mc_zero]; rfl, HZ, HK⟩
    case round =>
      obtain ⟨t, ht, rfl, rfl, HT, HW2⟩ := hrel
      by_cases htl : t < n
      · have hti : (t : Int) < (n : Int) := by omega
        have hM := HM.out
        have hs := hM.2.2.2
        have hT1 := HT.out
        have hml : t < (mix n t X a).length := by rw [mix_length (by omega)]; omega
        have c3 := hT1.cell (j := t) hml
        rw [el_mix (by omega), if_neg (by omega)] at c3
        have f3 := hT1.frozen t
        obtain ⟨s1, s2⟩ := mul_step a (2 ^ s) t
        have hcl := mc_lt_d a (2 ^ s) t (Nat.two_pow_pos s)
        rw [HX.out] at s1
        have hset := fun q => (hT1.dn q).set t (X / W64 ^ t % W64)
        simp only [mix_set (show t < n from htl)] at hset
        have hxl : a / W64 ^ t % W64 < W64 := Nat.mod_lt _ W64_pos
        have hcn0 := mc_lt_d a (2 ^ s) (t + 1) (Nat.two_pow_pos s)
        obtain ⟨cn, hcn⟩ : ∃ cn, mc 0 a (2 ^ s) (t + 1) = cn := ⟨_, rfl⟩
        rw [hcn] at s2 hcn0
        generalize mc 0 a (2 ^ s) t = cy at *
        generalize a / W64 ^ t % W64 = x at *
        generalize X / W64 ^ t % W64 = z at *
        obtain ⟨u1, u2⟩ := sh_words (x := x) hs hcl
        rw [← s1] at u1
        rw [← s2] at u2
        have e0 : IntKind.u64.wrap ((x : Int) * 2 ^ s) = ((x * 2 ^ s % W64 : Nat) : Int) := by
          rw [IntKind.wrap_u64, W64_num]
          have e4 : (2 : Int) ^ s = ((2 ^ s : Nat) : Int) := by simp
          rw [e4, ← Int.natCast_mul]; omega
        have hy : x * 2 ^ s % W64 < W64 := Nat.mod_lt _ W64_pos
        have hps : 2 ^ s ≤ W64 := by rw [W64_eq]; exact Nat.pow_le_pow_right (by omega) (by omega)
        have hor := or_shl cy x s hcl hs
        rw [e0, ← u1] at hor
        generalize x * 2 ^ s % W64 = y at *
        rw [W64_num] at hy hps hxl
        have hor2 : bits .or .u64 (y : Int) (cy : Int) = (z : Int) := by
          rw [bits_or_u64_nat _ _ (by omega) (by omega), Nat.or_comm]
          rw [bits_or_u64_nat _ _ (by omega) (by omega)] at hor
          exact hor
        have hmin : min s 64 = s := Nat.min_eq_left (by omega)
        have e1 : IntKind.u64.wrap ((x : Int) * 2 ^ (min s 64)) = (y : Int) := by rw [hmin]; exact e0
        have e4 : IntKind.i64.wrap (64 - (s : Int)) = ((64 - s : Nat) : Int) := by rw [IntKind.wrap_i64]; omega
        have e5 : (x : Int) / 2 ^ (64 - s) = (cn : Int) := by rw [u2]; simp
        have e6 : (x : Int) / 2 ^ (min (64 - s) 64) = (cn : Int) := by rw [Nat.min_eq_left (by omega)]; exact e5
        have e7 : ¬ ((64 - s : Nat) : Int) < 0 := by omega
        have e8 : ¬ 64 ≤ 64 - s := by have := HS.out; omega
        have p4 : IntKind.i64.wrap ((t : Int) + 1) = (t : Int) + 1 := by rw [IntKind.wrap_i64]; omega
        have HS2 := Lib.hid hset
        have HC := Lib.hid hcn
        clear hset hT1 s1 s2 u1 u2 hcl hxl hcn0 hcn hy hps hor hM hml HT
        go_wp2_with fail
        go_region_with (fail)
        all_goals
          go_wp2_with fail
          go_roundw
          case rel => exact ⟨t + 1, by omega, by go_num, by rw [HC.out], Lib.hid (HS2.out _), Lib.hid ((below_dn HW2.out _).setCell (p := ⟨w.heap.size, t, none⟩) (Nat.le_refl _) _)⟩
          case measure => simp [intOf]; omega
      · have htl2 : t = n := by omega
        subst htl2
        have hT1 := HT.out
        rw [mix_full] at hT1
        have hti : ¬ (t : Int) < (t : Int) := by omega
        have HS2 := Lib.hid hT1
        clear hT1 HT
        go_wp2_with fail
        go_ret
        exact ⟨rfl, HS2.out, HW2.out⟩
end Go.Proofs.YtibjogbalmbeeaaGreatDoor

namespace Go.Proofs.YtibjogbalmbeeaaGreatDoor
open Go.RowKit

theorem nat_cells {w : World} {A : Option Addr} {a : Nat} (hr : RdU w A (toL a)) : ∀ W, Below w.heap.size w W → ∀ j, j < (toL a).length → ∃ ad, A = some ad ∧ W.cell? (ad.add j) = some (.int .u64 ((a / W64 ^ j % W64 : Nat) : Int)) := fun W hW j hj => by
  obtain ⟨ad, e, hc⟩ := hr.below hW (by omega)
  refine ⟨ad, e, ?_⟩
  rw [← el_toL]; exact hc j hj
theorem trim_nat {w : World} {A : Option Addr} {c a : Nat} (hr : RdU w A (toL a)) (hc : (toL a).length ≤ c) (hs : (toL a).length ≤ 100000) : Calls Tryz.prog 87 #[.slice A (toL a).length c] w fun e w' => e = .returned (.slice A (toL a).length c) ∧ w = w' := by
  have ht := trim_walk A (toL a).length c (toL a) w rfl hr hc hs
  rw [trimTo_eq (Wd_toL a) _ (Nat.le_refl _), List.take_length, vl_toL] at ht
  exact ht

theorem drewn_more {w wr : World} (h : ∃ q, wr = w.drewN q) (n : Nat) : ∃ q, wr.drewN n = w.drewN q := by
  obtain ⟨q, rfl⟩ := h
  exact ⟨q + n, by rw [World.drewN_drewN]⟩
theorem drewn_below {w wr : World} (h : ∃ q, wr = w.drewN q) : Below w.heap.size w wr := by
  obtain ⟨q, rfl⟩ := h
  exact below_dn (Below.refl _ _) q

set_option maxRecDepth 100000 in
theorem cmp_walk (v1 v2 : Value) (a b : Nat) (w : World) (h1 : NatAt w v1 a) (h2 : NatAt w v2 b) (hs1 : (toL a).length ≤ 100000) (hs2 : (toL b).length ≤ 100000) :
    Calls Tryz.prog 43 #[v1, v2] w fun e w' => e = .returned (.int .i64 (cmpI a b)) ∧ ∃ q, w' = w.drewN q := by
  obtain ⟨A1, c1, rfl, hc1, hr1⟩ := h1
  obtain ⟨A2, c2, rfl, hc2, hr2⟩ := h2
  have HT1 := Lib.hid (trim_nat hr1 hc1 hs1)
  have HT2 := Lib.hid (trim_nat hr2 hc2 hs2)
  have HR1 := Lib.hid (nat_cells hr1)
  have HR2 := Lib.hid (nat_cells hr2)
  have HL := Lib.hid (show ((toL a).length < (toL b).length → a < b) ∧ ((toL b).length < (toL a).length → b < a) from ⟨len_less, len_less⟩)
  have HZ := Lib.hid (show a / W64 ^ (toL a).length = 0 ∧ b / W64 ^ (toL b).length = 0 from ⟨top_zero a, top_zero b⟩)
  clear hr1 hr2
  obtain ⟨la, hla⟩ : ∃ la, (toL a).length = la := ⟨_, rfl⟩
  obtain ⟨lb, hlb⟩ : ∃ lb, (toL b).length = lb := ⟨_, rfl⟩
  rw [hla] at HT1 HR1 HL HZ hc1 hs1 ⊢
  rw [hlb] at HT2 HR2 HL HZ hc2 hs2 ⊢
  clear hla hlb
  by_cases hne : la = lb
  case neg =>
    have hb : ((la : Int) != (lb : Int)) = true := by rw [bne_iff_ne]; omega
    by_cases hlt : la < lb
    · have hi : (la : Int) < (lb : Int) := by omega
      have HF := Lib.hid (cmpI_lt (HL.out.1 hlt))
      clear hne hlt
      go_enter Tryz.func43, Tryz.ntmps43
      go_wp2_with (first | (go_at_call_of 87 (Value.slice A1 la c1); refine HT1.out.mono ?_; rintro e w' ⟨rfl, rfl⟩) | (go_at_call_of 87 (Value.slice A2 lb c2); refine HT2.out.mono ?_; rintro e w' ⟨rfl, rfl⟩))
      go_ret
      exact ⟨by rw [HF.out]; rfl, 0, rfl⟩
    · have hi : ¬ (la : Int) < (lb : Int) := by omega
      have HF := Lib.hid (cmpI_gt (HL.out.2 (by omega)))
      clear hne hlt
      go_enter Tryz.func43, Tryz.ntmps43
      go_wp2_with (first | (go_at_call_of 87 (Value.slice A1 la c1); refine HT1.out.mono ?_; rintro e w' ⟨rfl, rfl⟩) | (go_at_call_of 87 (Value.slice A2 lb c2); refine HT2.out.mono ?_; rintro e w' ⟨rfl, rfl⟩))
      go_ret
      exact ⟨by rw [HF.out]; rfl, 0, rfl⟩
  subst hne
  have hb : ((la : Int) != (la : Int)) = false := by rw [bne_eq_false_iff_eq]
  have p1 : IntKind.i64.wrap ((la : Int) - 1) = (la : Int) - 1 := by rw [IntKind.wrap_i64]; omega
  go_enter Tryz.func43, Tryz.ntmps43
  go_wp2_with (first | (go_at_call_of 87 (Value.slice A1 la c1); refine HT1.out.mono ?_; rintro e w' ⟨rfl, rfl⟩) | (go_at_call_of 87 (Value.slice A2 la c2); refine HT2.out.mono ?_; rintro e w' ⟨rfl, rfl⟩))
  go_loopw [7] (fun i wr => ∃ j : Nat, j ≤ la ∧ i = .int .i64 ((j : Int) - 1) ∧ Hid (a / W64 ^ j = b / W64 ^ j) ∧ Hid (∃ q, wr = w.drewN q)) (fun i _ => (intOf i + 1).toNat)
  case atStart => exact ⟨la, Nat.le_refl _, rfl, Lib.hid (by rw [HZ.out.1, HZ.out.2]), Lib.hid ⟨0, rfl⟩⟩
  case round =>
    obtain ⟨j, hj, rfl, HQ, HW⟩ := hrel
    cases j with
    | zero =>
      have HF := Lib.hid (cmpI_eq (show a = b by have := HQ.out; simpa using this))
      clear HT1 HT2 hb p1
      go_wp2_with fail
      go_ret
      exact ⟨by rw [HF.out]; rfl, HW.out⟩
    | succ j =>
      have e0 : (((j + 1 : Nat) : Int) - 1) = (j : Int) := by omega
      rw [e0]
      obtain ⟨ad1, rfl, k1⟩ := HR1.out _ (drewn_below HW.out) j (by omega)
      obtain ⟨ad2, rfl, k2⟩ := HR2.out _ (drewn_below HW.out) j (by omega)
      have hji : (j : Int) < (la : Int) := by omega
      have HE := Lib.hid (show (a / W64 ^ j % W64 = b / W64 ^ j % W64 → a / W64 ^ j = b / W64 ^ j) ∧ (a / W64 ^ j % W64 < b / W64 ^ j % W64 → cmpI a b = -1) ∧ (b / W64 ^ j % W64 < a / W64 ^ j % W64 → cmpI a b = 1) from
        ⟨cmp_more HQ.out, fun h => cmpI_lt (cmp_top HQ.out h), fun h => cmpI_gt (cmp_top HQ.out.symm h)⟩)
      generalize a / W64 ^ j % W64 = x at *
      generalize b / W64 ^ j % W64 = y at *
      clear HQ HT1 HT2 hb p1 HR1 HR2
      by_cases hxy : x = y
      · have hxb : ((x : Int) != (y : Int)) = false := by rw [bne_eq_false_iff_eq]; omega
        have HN := Lib.hid (HE.out.1 hxy)
        have p2 : IntKind.i64.wrap ((j : Int) - 1) = (j : Int) - 1 := by rw [IntKind.wrap_i64]; omega
        clear hxy
        go_wp2_with fail
        go_quiet (fail)
        go_wp2_with fail
        go_roundw
        case rel => exact ⟨j, by omega, rfl, HN, Lib.hid (drewn_more HW.out _)⟩
        case measure => simp [intOf] <;> omega
      · have hxb : ((x : Int) != (y : Int)) = true := by rw [bne_iff_ne]; omega
        by_cases hlt : x < y
        · have hi : (x : Int) < (y : Int) := by omega
          have HF := Lib.hid (HE.out.2.1 hlt)
          clear hxy hlt
          go_wp2_with fail
          go_quiet (fail)
          go_wp2_with fail
          go_quiet (fail)
          go_wp2_with fail
          go_ret
          exact ⟨by rw [HF.out]; rfl, drewn_more (drewn_more HW.out _) _⟩
        · have hi : ¬ (x : Int) < (y : Int) := by omega
          have HF := Lib.hid (HE.out.2.2 (by omega))
          clear hxy hlt
          go_wp2_with fail
          go_quiet (fail)
          go_wp2_with fail
          go_quiet (fail)
          go_wp2_with fail
          go_ret
          exact ⟨by rw [HF.out]; rfl, drewn_more (drewn_more HW.out _) _⟩
end Go.Proofs.YtibjogbalmbeeaaGreatDoor

namespace Go.Proofs.YtibjogbalmbeeaaGreatDoor
open Go.RowKit

end Go.Proofs.YtibjogbalmbeeaaGreatDoor

namespace Go.Proofs.YtibjogbalmbeeaaGreatDoor
open Go.RowKit

set_option maxRecDepth 100000 in
theorem mulword_walk (v : Value) (a m : Nat) (w : World) (h : NatAt w v a) (hm : m < W64) (hs : (toL a).length ≤ 8192) (hfit : (toL (a * m)).length ≤ 8192) :
    Calls Tryz.prog 252 #[v, .int .u64 (m : Int)] w fun e w' => ∃ v, e = .returned (.tuple #[v, .int .i64 0]) ∧ NatAt w' v (a * m) ∧ Below w.heap.size w w' := by
  have hlt1 := (toL_length_le a _).1 (Nat.le_refl _)
  have hfa := form_walk v a w h hs
  obtain ⟨A1, c1, rfl, hc1, hr1⟩ := h
  have HR1 := Lib.hid (nat_cells hr1)
  have hXl : a * m < W64 ^ ((toL a).length + 1) := by rw [Nat.pow_succ]; exact Nat.mul_lt_mul'' hlt1 hm
  have htop : (a * m) / W64 ^ (toL a).length % W64 = mc 0 a m (toL a).length := by
    have h1 : mc 0 a m (toL a).length = (a * m) / W64 ^ (toL a).length := by unfold mc; rw [Nat.zero_mod, Nat.zero_add, Nat.mod_eq_of_lt hlt1]
    have h2 := mc_lt 0 a m (toL a).length hm
    rw [← h1, Nat.mod_eq_of_lt h2]
  obtain ⟨la, hla⟩ : ∃ la, (toL a).length = la := ⟨_, rfl⟩
  rw [hla] at HR1 hfa hc1 hs hXl htop ⊢
  have HFA := Lib.hid hfa
  have HXL := Lib.hid hXl
  have HFit := Lib.hid hfit
  have HTop := Lib.hid htop
  have HM := Lib.hid hm
  have hmk := make_u64 (la + 1) (by omega)
  rw [show ((la + 1 : Nat) : Int) = (la : Int) + 1 by omega] at hmk
  have p1 : IntKind.i64.wrap ((la : Int) + 1) = (la : Int) + 1 := by rw [IntKind.wrap_i64]; omega
  clear hfa hr1 hla hXl hfit hlt1 htop hm
  go_enter Tryz.func252, Tryz.ntmps252
  go_wp2_with (go_at_call 78; refine HFA.out.mono ?_; rintro e w' ⟨rfl, rfl⟩)
  have hB0 := Blk.new w (List.replicate (la + 1) 0)
  have hb0 : Below w.heap.size w (w.alloc (.cells (U (List.replicate (la + 1) 0)) 23)) := below_alloc' _ _
  rw [← fil_zero (la + 1) (a * m)] at hB0 hb0 ⊢
  have HB0 := Lib.hid hB0
  have Hb0 := Lib.hid hb0
  clear hmk hB0 hb0 p1
  go_loopw [7, 21] (fun cy i wr => ∃ k : Nat, k ≤ la ∧ i = .int .i64 k ∧ cy = .int .u64 ((mc 0 a m k : Nat) : Int) ∧ Hid (Blk wr w.heap.size (fil (la + 1) k (a * m))) ∧ Hid (Below w.heap.size w wr)) (fun _ i _ => la - (intOf i).toNat)
  case atStart => exact ⟨0, by omega, rfl, by rw [mc_zero]; rfl, HB0, Hb0⟩
  case round =>
    obtain ⟨k, hk, rfl, rfl, HB, HD⟩ := hrel
    have hz := HB.out.frozen k
    have hfl : k < (fil (la + 1) k (a * m)).length := by rw [fil_length (by omega)]; omega
    have hcs := HB.out.cell hfl
    have hkk2 : (k : Int) < (la : Int) + 1 := by omega
    have hB1 := HB.out.set k ((a * m) / W64 ^ k % W64)
    rw [fil_set (by omega) rfl] at hB1
    have HB1 := Lib.hid hB1
    by_cases hlt : k < la
    · obtain ⟨ad, rfl, hck⟩ := HR1.out _ HD.out k hlt
      have hkk : (k : Int) < (la : Int) := by omega
      obtain ⟨s1, s2⟩ := mul_step a m k
      have hcl := mc_lt 0 a m k HM.out
      have hvl : a / W64 ^ k % W64 < W64 := Nat.mod_lt _ W64_pos
      obtain ⟨cn, hcn⟩ : ∃ cn, mc 0 a m (k + 1) = cn := ⟨_, rfl⟩
      have HC := Lib.hid hcn
      rw [hcn] at s2
      generalize mc 0 a m k = cy at *
      generalize a / W64 ^ k % W64 = vi at *
      generalize (a * m) / W64 ^ k % W64 = li at *
      have hw := mul_words vi m cy hvl HM.out hcl
      rw [← s1, ← s2] at hw
      have hm64 := HM.out
      rw [W64_num] at hw hvl hcl hm64
      have hMul := fun W1 => Tryz.bits_Mul64 vi m hvl hm64 W1
      obtain ⟨hi, hhi⟩ : ∃ hi, vi * m / 18446744073709551616 = hi := ⟨_, rfl⟩
      obtain ⟨lo, hlo⟩ : ∃ lo, vi * m % 18446744073709551616 = lo := ⟨_, rfl⟩
      simp only [hhi, hlo] at hMul hw
      have ha1 := fun W1 => Any7.bits_Add64 Tryz.lays7_25 lo cy 0 (by omega) W1
      obtain ⟨k1, hk1⟩ : ∃ k1, (lo + cy) / 18446744073709551616 = k1 := ⟨_, rfl⟩
      simp only [Nat.add_zero, hk1] at ha1 hw
      rw [hw.1] at ha1
      have HMul := Lib.hid hMul
      have hadd1 : ∀ W1 : World, (callFunc 85 #[.int .u64 (lo : Int), .int .u64 (cy : Int), .int .u64 0]).run Tryz.prog W1 = .ok (.value (.tuple #[.int .u64 (li : Int), .int .u64 (k1 : Int)])) W1 := ha1
      have p1 : IntKind.u64.wrap ((hi : Int) + (k1 : Int)) = (cn : Int) := by rw [IntKind.wrap_u64]; omega
      have p4 : IntKind.i64.wrap ((k : Int) + 1) = (k : Int) + 1 := by rw [IntKind.wrap_i64]; omega
      clear hB1 hfl s1 s2 hcl hvl hMul ha1 hw hhi hlo hk1 hcn hm64
      go_wp2_with fail
      refine (HMul.out _).mono ?_
      rintro e w5 ⟨rfl, rfl⟩
      go_wp2_with fail
      go_roundw
      case rel => exact ⟨k + 1, by omega, by go_num, by rw [HC.out], HB1, Lib.hid (HD.out.setCell (p := ⟨w.heap.size, k, none⟩) (Nat.le_refl _) _)⟩
      case measure => simp [intOf]; omega
    · have hk2 : k = la := by omega
      subst hk2
      have hki : ¬ (k : Int) < (k : Int) := by omega
      have hBf := HB1.out
      rw [fil_full, HTop.out] at hBf
      have htold := told_walk (some ⟨w.heap.size, 0, none⟩) (k + 1) (k + 1) _ _ (pad_length _ _) hBf.read (Wd_pad _ _) (Nat.le_refl _) (by omega) (by rw [vl_pad_of HXL.out]; exact HFit.out)
      rw [vl_pad_of HXL.out] at htold
      have HT := Lib.hid htold
      have HDs := Lib.hid (HD.out.setCell (p := ⟨w.heap.size, k, none⟩) (Nat.le_refl _) (.int .u64 ((mc 0 a m k : Nat) : Int)))
      clear htold hBf hB1 hfl
      go_wp2_with (go_at_call 86; refine HT.out.mono ?_; rintro e w' ⟨v', rfl, hv', rfl⟩)
      go_ret2
      exact ⟨_, rfl, hv', HDs.out⟩
end Go.Proofs.YtibjogbalmbeeaaGreatDoor

namespace Go.Proofs.YtibjogbalmbeeaaGreatDoor
open Go.RowKit

/-- A natural whose limbs lie in a row of words. -/
def NatT (w : World) (v : Value) (x : Nat) : Prop := NatAt w v x ∧ ∀ A n c, v = .slice A n c → 0 < n → ∃ ad cur fz, A = some ad ∧ w.heap[ad.block]? = some (.cells cur 23 fz)
theorem Blk.natT {w : World} {g la x : Nat} (h : Blk w g (pad la x)) (hx : x < W64 ^ la) : NatT w (.slice (some ⟨g, 0, none⟩) (toL x).length la) x := by
  have hl := (toL_length_le x la).2 hx
  refine ⟨⟨_, la, rfl, hl, ?_⟩, fun A n c e _ => ?_⟩
  · have e : toL x = (pad la x).take (toL x).length := by rw [pad_app hl, List.take_left]
    have h2 := h.read.take (toL x).length
    rw [← e] at h2
    exact h2
  · injection e with e1 e2 e3
    subst e1
    exact ⟨_, U (pad la x), (0, 0), rfl, h⟩

set_option maxRecDepth 100000 in
theorem told_slice (g la x : Nat) (w : World) (h : Blk w g (pad la x)) (hx : x < W64 ^ la) (hs : la ≤ 8192) :
    Calls Tryz.prog 86 #[.slice (some ⟨g, 0, none⟩) la la] w fun e w' => e = .returned (.tuple #[.slice (some ⟨g, 0, none⟩) (toL x).length la, .int .i64 0]) ∧ w = w' := by
  have hcal := trim_walk (some ⟨g, 0, none⟩) la la (pad la x) w (pad_length _ _) h.read (Nat.le_refl _) (by omega)
  rw [trimTo_eq (Wd_pad _ _) _ (Nat.le_refl _), List.take_length, vl_pad_of hx] at hcal
  have hl := (toL_length_le x la).2 hx
  generalize toL x = t at *
  have HC := Lib.hid hcal
  clear hcal hx h
  go_enter Tryz.func86, Tryz.ntmps86
  go_wp2_with (go_at_call 87; refine HC.out.mono ?_; rintro e w' ⟨rfl, rfl⟩)
  go_ret2
  exact ⟨rfl, rfl⟩

set_option maxRecDepth 100000 in
theorem divword_walkT (v : Value) (a d : Nat) (w : World) (h : NatAt w v a) (hd : 0 < d) (hdW : d < W64) (hs : (toL a).length ≤ 8192) :
    Calls Tryz.prog 80 #[v, .int .u64 (d : Int)] w fun e w' => ∃ v, e = .returned (.tuple #[v, .int .u64 ((a % d : Nat) : Int), .int .i64 0]) ∧ NatT w' v (a / d) ∧ Below w.heap.size w w' := by
  have hlt1 := (toL_length_le a _).1 (Nat.le_refl _)
  have hfa := form_walk v a w h hs
  obtain ⟨A1, c1, rfl, hc1, hr1⟩ := h
  have HR1 := Lib.hid (nat_cells hr1)
  have hXl : a / d < W64 ^ (toL a).length := Nat.lt_of_le_of_lt (Nat.div_le_self _ _) hlt1
  have hfit : (toL (a / d)).length ≤ 8192 := Nat.le_trans ((toL_length_le _ _).2 hXl) hs
  have htop := top_zero a
  obtain ⟨la, hla⟩ : ∃ la, (toL a).length = la := ⟨_, rfl⟩
  rw [hla] at HR1 hfa hc1 hs hXl htop ⊢
  have HFA := Lib.hid hfa
  have HXL := Lib.hid hXl
  have HFit := Lib.hid hfit
  have HTop := Lib.hid htop
  have hdn : ((d : Int) == 0) = false := by rw [beq_eq_false_iff_ne]; omega
  have HM := Lib.hid (show 0 < d ∧ d < W64 from ⟨hd, hdW⟩)
  have hmk := make_u64 la (by omega)
  have p1 : IntKind.i64.wrap ((la : Int) - 1) = (la : Int) - 1 := by rw [IntKind.wrap_i64]; omega
  clear hfa hr1 hla hXl hfit hlt1 htop hd hdW
  go_enter Tryz.func80, Tryz.ntmps80
  go_wp2_with (go_at_call 78; refine HFA.out.mono ?_; rintro e w' ⟨rfl, rfl⟩)
  have hB0 := Blk.new w (List.replicate la 0)
  rw [← pad_zero_rep] at hB0
  have HB0 := Lib.hid hB0
  have Hb0 := Lib.hid (below_alloc' w (.cells (U (List.replicate la 0)) 23))
  rw [← pad_zero_rep] at Hb0 ⊢
  clear hmk hB0 p1
  go_loopw [8, 9] (fun lf i wr => ∃ j : Nat, j ≤ la ∧ i = .int .i64 ((j : Int) - 1) ∧ lf = .int .u64 ((a / W64 ^ j % d : Nat) : Int) ∧ Hid (Blk wr w.heap.size (pad la (W64 ^ j * (a / W64 ^ j / d)))) ∧ Hid (Below w.heap.size w wr)) (fun _ i _ => (intOf i + 1).toNat)
  case atStart => exact ⟨la, Nat.le_refl _, rfl, by rw [HTop.out, Nat.zero_mod]; rfl, by rw [HTop.out, Nat.zero_div, Nat.mul_zero]; exact HB0, Hb0⟩
  case round =>
    obtain ⟨j, hj, rfl, rfl, HB, HD⟩ := hrel
    cases j with
    | zero =>
      have hBf := HB.out
      rw [Nat.pow_zero, Nat.div_one, Nat.one_mul] at hBf
      rw [Nat.pow_zero, Nat.div_one]
      have HT := Lib.hid (told_slice w.heap.size la (a / d) wr hBf HXL.out hs)
      have HN := Lib.hid (hBf.natT HXL.out)
      clear hBf
      go_wp2_with fail
      refine HT.out.mono ?_
      rintro e w' ⟨rfl, rfl⟩
      go_wp2
      refine bodyPost_ret (v := .tuple #[.slice (some ⟨w.heap.size, 0, none⟩) (toL (a / d)).length la, .int .u64 ((a % d : Nat) : Int), .int .i64 0]) (by simp [results, Tryz.results80, go_sem]) rfl ⟨_, rfl, HN.out, HD.out⟩
    | succ j =>
      have e0 : (((j + 1 : Nat) : Int) - 1) = (j : Int) := by omega
      rw [e0]
      obtain ⟨ad, rfl, hck⟩ := HR1.out _ HD.out j (by omega)
      have hji : (j : Int) < (la : Int) := by omega
      obtain ⟨s1, s2, s3⟩ := divw_step a d j HM.out.1 HM.out.2
      have hml : j < (pad la (W64 ^ (j + 1) * (a / W64 ^ (j + 1) / d))).length := by rw [pad_length]; omega
      have hcs := HB.out.cell hml
      have hz := HB.out.frozen j
      have hset := fun q => (HB.out.dn q).set j ((a / W64 ^ (j + 1) % d * W64 + a / W64 ^ j % W64) / d)
      simp only [quo_set (show j < la by omega) s2, ← s3] at hset
      have hrl : a / W64 ^ (j + 1) % d < d := Nat.mod_lt _ HM.out.1
      have hxl : a / W64 ^ j % W64 < W64 := Nat.mod_lt _ W64_pos
      have hdl := HM.out.2
      rw [W64_num] at hdl
      have hD := fun W => div64_walk (a / W64 ^ (j + 1) % d) (a / W64 ^ j % W64) d hrl hdl (by rw [W64_num] at hxl ⊢; exact hxl) W
      rw [← W64_num] at hD
      simp only [s1] at hD
      obtain ⟨dg, hdg⟩ : ∃ dg, (a / W64 ^ (j + 1) % d * W64 + a / W64 ^ j % W64) / d = dg := ⟨_, rfl⟩
      simp only [hdg] at hD hset
      have HS := Lib.hid hset
      have HDv := Lib.hid hD
      have p2 : IntKind.i64.wrap ((j : Int) - 1) = (j : Int) - 1 := by rw [IntKind.wrap_i64]; omega
      clear s1 s2 s3 hml hset hrl hxl hdl hD hdg
      generalize a / W64 ^ j % W64 = x at *
      go_wp2_with fail
      refine (HDv.out _).mono ?_
      rintro e w5 ⟨rfl, m, rfl⟩
      go_wp2_with fail
      go_roundw
      case rel => exact ⟨j, by omega, rfl, rfl, Lib.hid (HS.out m), Lib.hid ((below_dn HD.out m).setCell (p := ⟨w.heap.size, j, none⟩) (Nat.le_refl _) _)⟩
      case measure => simp [intOf] <;> omega
theorem divword_walk (v : Value) (a d : Nat) (w : World) (h : NatAt w v a) (hd : 0 < d) (hdW : d < W64) (hs : (toL a).length ≤ 8192) :
    Calls Tryz.prog 80 #[v, .int .u64 (d : Int)] w fun e w' => ∃ v, e = .returned (.tuple #[v, .int .u64 ((a % d : Nat) : Int), .int .i64 0]) ∧ NatAt w' v (a / d) ∧ Below w.heap.size w w' :=
  (divword_walkT v a d w h hd hdW hs).mono fun _ _ ⟨v, h1, h2, h3⟩ => ⟨v, h1, h2.1, h3⟩
end Go.Proofs.YtibjogbalmbeeaaGreatDoor

namespace Go.Proofs.YtibjogbalmbeeaaGreatDoor
open Go.RowKit

theorem pad_take {m n X : Nat} (h : n ≤ m) : (pad m X).take n = pad n X := by
  apply list_ext
  · rw [List.length_take, pad_length, pad_length]; omega
  · intro j hj
    rw [List.length_take, pad_length] at hj
    rw [el_take (by omega), el_pad (by omega), el_pad (by omega)]
/-- A divisor shifted until its top bit is set. -/
theorem shift_facts {a b la lb s : Nat} (hla : (toL a).length = la) (hlb : (toL b).length = lb) (hb : b ≠ 0) (hab : b ≤ a) (hs : s = 64 - blen (el (toL b) (lb - 1))) :
    b * 2 ^ s < W64 ^ lb ∧ W64 ^ (lb - 1) ≤ b * 2 ^ s ∧ a * 2 ^ s < W64 ^ (la + 1 - lb) * (b * 2 ^ s) ∧ s < 64 ∧ 1 ≤ lb ∧ lb < la + 1 := by
  have h1 := blen_limbs hb
  rw [hlb] at h1
  have hl0 : lb ≠ 0 := fun e => hb ((toL_length_zero b).1 (by omega))
  have hlast := toL_last hb
  rw [hlb] at hlast
  have ht1 := blen_pos hlast
  have ht2 : blen (el (toL b) (lb - 1)) ≤ 64 := by rw [blen_le, ← W64_eq]; exact el_lt (Wd_toL b) _
  have hp := Nat.two_pow_pos s
  have hlo : W64 ^ (lb - 1) ≤ b := by
    refine Nat.le_of_not_lt fun h => ?_
    have := (toL_length_le b (lb - 1)).2 h
    omega
  have hle : lb ≤ la := by
    refine Nat.le_of_not_lt fun h => ?_
    have := len_less (a := a) (b := b) (by omega)
    omega
  have ha := (toL_length_le a la).1 (by omega)
  refine ⟨?_, ?_, ?_, by omega, by omega, by omega⟩
  · have h2 : b * 2 ^ s < 2 ^ blen b * 2 ^ s := Nat.mul_lt_mul_of_pos_right (blen_hi b) hp
    rw [← Nat.pow_add] at h2
    rw [W64_pow]
    exact Nat.lt_of_lt_of_le h2 (Nat.pow_le_pow_right (by omega) (by omega))
  · exact Nat.le_trans hlo (Nat.le_mul_of_pos_right _ hp)
  · rw [← Nat.mul_assoc]
    refine Nat.mul_lt_mul_of_pos_right ?_ hp
    have h3 : W64 ^ (la + 1 - lb) * W64 ^ (lb - 1) ≤ W64 ^ (la + 1 - lb) * b := Nat.mul_le_mul_left _ hlo
    rw [← Nat.pow_add, show la + 1 - lb + (lb - 1) = la by omega] at h3
    omega

set_option maxRecDepth 100000 in
set_option maxHeartbeats 1000000 in
theorem quorem_walk (v1 v2 : Value) (a b : Nat) (w : World) (h1 : NatAt w v1 a) (h2 : NatAt w v2 b) (hb : b ≠ 0) (hs1 : (toL a).length ≤ 8192) (hs2 : (toL b).length ≤ 8192) :
    Calls Tryz.prog 38 #[v1, v2] w fun e w' => ∃ q r, e = .returned (.tuple #[q, r, .int .i64 0]) ∧ NatAt w' q (a / b) ∧ NatAt w' r (a % b) ∧ Below w.heap.size w w' := by
  have H1 := Lib.hid h1
  have H2 := Lib.hid h2
  have hfa := form_walk v1 a w h1 hs1
  have hfb := form_walk v2 b w h2 hs2
  have hcmp := cmp_walk v1 v2 a b w h1 h2 (by omega) (by omega)
  have hlb0 : (toL b).length ≠ 0 := fun e => hb ((toL_length_zero b).1 e)
  obtain ⟨A1, c1, rfl, hc1, hr1⟩ := h1
  obtain ⟨A2, c2, rfl, hc2, hr2⟩ := h2
  obtain ⟨la, hla⟩ : ∃ la, (toL a).length = la := ⟨_, rfl⟩
  obtain ⟨lb, hlb⟩ : ∃ lb, (toL b).length = lb := ⟨_, rfl⟩
  rw [hla] at H1 hfa hcmp hc1 hs1 ⊢
  rw [hlb] at H2 hfb hcmp hc2 hs2 hlb0 ⊢
  have HFA := Lib.hid hfa
  have HFB := Lib.hid hfb
  have hl2 : ((lb : Int) == 0) = false := by rw [beq_eq_false_iff_ne]; omega
  have HR1 := Lib.hid hr1
  have HR2 := Lib.hid hr2
  have HLA := Lib.hid hla
  have HLB := Lib.hid hlb
  by_cases hlt : a < b
  · rw [cmpI_lt hlt] at hcmp
    have HCM := Lib.hid hcmp
    have hn := fun W (hW : Below w.heap.size w W) => norm_walk A1 la c1 (toL a) W hla (hr1.below hW) (Wd_toL a) hc1 (by omega) (by rw [vl_toL, hla]; omega)
    rw [vl_toL] at hn
    have HN := Lib.hid hn
    rw [Nat.div_eq_of_lt hlt, Nat.mod_eq_of_lt hlt]
    clear hfa hfb hcmp hr1 hr2 hla hlb hn hlt
    go_enter Tryz.func38, Tryz.ntmps38
    go_wp2_with (first | (go_at_call_of 78 (Value.slice A1 la c1); refine HFA.out.mono ?_; rintro e w' ⟨rfl, rfl⟩) | (go_at_call_of 78 (Value.slice A2 lb c2); refine HFB.out.mono ?_; rintro e w' ⟨rfl, rfl⟩))
    refine HCM.out.mono ?_
    rintro e w1 ⟨rfl, hq⟩
    have HW1 := Lib.hid (drewn_below hq)
    clear hq HCM HFA HFB
    go_wp2_with fail
    refine (HN.out w1 HW1.out).mono ?_
    rintro e w2 ⟨v, rfl, hv, hb2⟩
    have HV := Lib.hid hv
    obtain ⟨A3, c3, rfl, hc3, hr3⟩ := hv
    clear hr3 hc3 HN
    go_wp2
    refine bodyPost_ret (v := .tuple #[.slice none 0 0, .slice A3 (toL a).length c3, .int .i64 0]) (by simp [results, Tryz.results38, go_sem]) rfl ⟨_, _, rfl, NatAt.nil _, HV.out, below_chain HW1.out hb2⟩
  · obtain ⟨cc, hcc⟩ : ∃ cc, cmpI a b = cc := ⟨_, rfl⟩
    have hc0 : ¬ cc < 0 := by rw [← hcc, cmpI_neg]; exact hlt
    rw [hcc] at hcmp
    have HCM := Lib.hid hcmp
    by_cases h1l : lb = 1
    · have hbl : ((lb : Int) == 1) = true := by rw [beq_iff_eq]; omega
      have hbW : b < W64 := by have := (toL_length_le b 1).1 (by omega); rwa [Nat.pow_one] at this
      have hcell := fun W hW => nat_cells hr2 W hW 0 (by omega)
      simp only [Nat.pow_zero, Nat.div_one, Nat.mod_eq_of_lt hbW] at hcell
      have HCell := Lib.hid hcell
      have HBW := Lib.hid (show 0 < b ∧ b < W64 ∧ (toL a).length ≤ 8192 from ⟨by omega, hbW, by omega⟩)
      have hl1 : (0 : Int) < (lb : Int) := by omega
      clear hfa hfb hcmp hr1 hr2 hla hlb hcell hbW hcc h1l hlt hlb0 hb
      go_enter Tryz.func38, Tryz.ntmps38
      go_wp2_with (first | (go_at_call_of 78 (Value.slice A1 la c1); refine HFA.out.mono ?_; rintro e w' ⟨rfl, rfl⟩) | (go_at_call_of 78 (Value.slice A2 lb c2); refine HFB.out.mono ?_; rintro e w' ⟨rfl, rfl⟩))
      refine HCM.out.mono ?_
      rintro e w1 ⟨rfl, hq⟩
      have HW1 := Lib.hid (drewn_below hq)
      clear hq HCM HFA HFB
      obtain ⟨ad, rfl, hcl⟩ := HCell.out w1 HW1.out
      rw [show ad.add 0 = ad by simp [Addr.add]] at hcl
      go_wp2_with fail
      refine (divword_walk _ a b w1 (H1.out.below HW1.out) HBW.out.1 HBW.out.2.1 HBW.out.2.2).mono ?_
      rintro e w2 ⟨v, rfl, hv, hb2⟩
      have HV := Lib.hid hv
      obtain ⟨A3, c3, rfl, hc3, hr3⟩ := hv
      clear hr3 hc3 hcl
      obtain ⟨r, hr⟩ : ∃ r, a % b = r := ⟨_, rfl⟩
      rw [hr]
      have HRl := Lib.hid (show r < W64 by rw [← hr]; exact Nat.lt_trans (Nat.mod_lt _ HBW.out.1) HBW.out.2.1)
      have HRe := Lib.hid hr
      clear hr
      go_wp2_with fail
      refine (word_walk r w2 HRl.out).mono ?_
      rintro e w3 ⟨v4, rfl, hv4, hb3⟩
      have HV4 := Lib.hid hv4
      obtain ⟨A4, c4, rfl, hc4, hr4⟩ := hv4
      clear hr4 hc4
      go_wp2
      refine bodyPost_ret (v := .tuple #[.slice A3 (toL (a / b)).length c3, .slice A4 (toL r).length c4, .int .i64 0]) (by simp [results, Tryz.results38, go_sem]) rfl ⟨_, _, rfl, HV.out.below hb3, (by first | exact HV4.out | (rw [HRe.out]; exact HV4.out)), below_chain (below_chain HW1.out hb2) hb3⟩
    · have hbl : ((lb : Int) == 1) = false := by rw [beq_eq_false_iff_ne]; omega
      obtain ⟨top, htop⟩ : ∃ top, b / W64 ^ (lb - 1) % W64 = top := ⟨_, rfl⟩
      obtain ⟨l1, hl1⟩ : ∃ l1, lb - 1 = l1 := ⟨_, rfl⟩
      have hcell := fun W hW => nat_cells hr2 W hW l1 (by omega)
      rw [hl1] at htop
      simp only [htop] at hcell
      have htopl : top < W64 := by rw [← htop]; exact Nat.mod_lt _ W64_pos
      obtain ⟨s, hs⟩ : ∃ s, 64 - blen top = s := ⟨_, rfl⟩
      obtain ⟨f1, f2, f3, f4, f5, f6⟩ := shift_facts (a := a) (b := b) (la := la) (lb := lb) (s := s) hla hlb hb (by omega) (by rw [el_toL, hl1, htop]; exact hs.symm)
      have hLz := fun W => Tryz.bits_LeadingZeros64 (top : Int) W (by omega) (by rw [W64_num] at htopl; omega)
      rw [Int.toNat_natCast, bitLen_blen htopl] at hLz
      have hb64 : blen top ≤ 64 := by rw [blen_le, ← W64_eq]; exact htopl
      have hs2 : (64 : Int) - ((blen top : Nat) : Int) = (s : Int) := by omega
      rw [hs2] at hLz
      have HLz := Lib.hid hLz
      have HCell := Lib.hid hcell
      have hsm := Nat.two_pow_pos s
      obtain ⟨Uu, hUu⟩ : ∃ Uu, a * 2 ^ s = Uu := ⟨_, rfl⟩
      obtain ⟨Vv, hVv⟩ : ∃ Vv, b * 2 ^ s = Vv := ⟨_, rfl⟩
      have hdv : Uu / Vv = a / b := by rw [← hUu, ← hVv, Nat.mul_div_mul_right _ _ hsm]
      have hmd : Uu % Vv / 2 ^ s = a % b := by rw [← hUu, ← hVv, Nat.mul_mod_mul_right, Nat.mul_div_cancel _ hsm]
      have hmdl : Uu % Vv < W64 ^ lb := Nat.lt_trans (Nat.mod_lt _ (by rw [← hVv]; exact Nat.mul_pos (by omega) hsm)) (by rw [← hVv]; exact f1)
      have hqa : Uu / Vv < W64 ^ (la + 1 - lb) := by
        rw [Nat.div_lt_iff_lt_mul (by rw [← hVv]; exact Nat.mul_pos (by omega) hsm), ← hUu, ← hVv]; exact f3
      rw [hVv] at f1 f2 f3
      rw [hUu] at f3
      have HF := Lib.hid (show Vv < W64 ^ lb ∧ W64 ^ (lb - 1) ≤ Vv ∧ Uu < W64 ^ (la + 1 - lb) * Vv from ⟨f1, f2, f3⟩)
      have HM := Lib.hid (show s < 64 ∧ 1 ≤ lb ∧ lb < la + 1 ∧ la ≤ 8192 ∧ lb ≤ 8192 ∧ lb ≤ c2 ∧ la ≤ c1 from ⟨f4, f5, f6, hs1, by omega, hc2, hc1⟩)
      have HD := Lib.hid (show Uu / Vv = a / b ∧ Uu % Vv / 2 ^ s = a % b ∧ Uu % Vv < W64 ^ lb ∧ Uu / Vv < W64 ^ (la + 1 - lb) ∧ a * 2 ^ s = Uu ∧ b * 2 ^ s = Vv from ⟨hdv, hmd, hmdl, hqa, hUu, hVv⟩)
      have p1 : IntKind.i64.wrap ((lb : Int) - 1) = (l1 : Int) := by rw [IntKind.wrap_i64]; omega
      have p2 : (l1 : Int) < (lb : Int) := by omega
      obtain ⟨m, hm⟩ : ∃ m, la + 1 = m := ⟨_, rfl⟩
      have p3 : IntKind.i64.wrap ((la : Int) + 1) = (m : Int) := by rw [IntKind.wrap_i64]; omega
      have p4 : (lb : Int) ≤ (m : Int) := by omega
      have HMm := Lib.hid hm
      clear hfa hfb hcmp hr1 hr2 hla hlb hcell hcc h1l hlt hlb0 hb hLz htop hl1 htopl hs f1 f2 f3 f4 f5 f6 hb64 hs2 hsm hUu hVv hdv hmd hmdl hqa hm
      go_enter Tryz.func38, Tryz.ntmps38
      go_wp2_with (first | (go_at_call_of 78 (Value.slice A1 la c1); refine HFA.out.mono ?_; rintro e w' ⟨rfl, rfl⟩) | (go_at_call_of 78 (Value.slice A2 lb c2); refine HFB.out.mono ?_; rintro e w' ⟨rfl, rfl⟩))
      refine HCM.out.mono ?_
      rintro e w1 ⟨rfl, hq⟩
      have HW1 := Lib.hid (drewn_below hq)
      clear hq HCM HFA HFB
      obtain ⟨ad, rfl, hcl⟩ := HCell.out w1 HW1.out
      go_wp2_with fail
      refine (HLz.out _).mono ?_
      rintro e w2 ⟨rfl, rfl⟩
      clear hcl
      go_wp2_with fail
      refine (shifted_walk A1 la c1 a s m w2 (HR1.out.below HW1.out) HLA.out (by have := HMm.out; omega) (by have := HMm.out; have := HM.out; omega) HM.out.1).mono ?_
      rintro e w3 ⟨rfl, hB3, hb3⟩
      have hW3 := below_chain HW1.out hb3
      have hg3 := hB3.lt
      rw [HD.out.2.2.2.2.1] at hB3
      have HB3 := Lib.hid hB3
      have HW3 := Lib.hid hW3
      have HG3 := Lib.hid hg3
      clear hB3 hb3 hW3 hg3
      go_wp2_with fail
      refine (shifted_walk (some ad) lb c2 b s lb w3 (HR2.out.below HW3.out) HLB.out (Nat.le_refl _) (by have := HM.out; omega) HM.out.1).mono ?_
      rintro e w4 ⟨rfl, hB4, hb4⟩
      rw [HD.out.2.2.2.2.2] at hB4
      have HB4 := Lib.hid hB4
      have HB34 := Lib.hid (HB3.out.below hb4)
      have HW4 := Lib.hid (below_chain HW3.out hb4)
      have HG4 := Lib.hid (show w2.heap.size ≠ w3.heap.size by have := HG3.out; omega)
      clear hB4 hb4
      have hlong := long_walk w2.heap.size m lb m lb Uu Vv (some ⟨w3.heap.size, 0, none⟩) w4 (HB4.out.rd (Ne.symm HG4.out)) HB34.out (by have := HM.out; omega) (by have := HMm.out; have := HM.out; omega) (by have := HMm.out; have := HM.out; omega) HF.out.1 HF.out.2.1 (by rw [← HMm.out]; exact HF.out.2.2) (Nat.le_refl _) (Nat.le_refl _)
      have HLong := Lib.hid hlong
      have HG1 := Lib.hid (show w.heap.size ≤ w2.heap.size from HW1.out.size)
      clear hlong
      go_wp2_with fail
      refine HLong.out.mono ?_
      rintro e w5 ⟨gq, rfl, hBq, hgq, hBu, hk5⟩
      have HBq := Lib.hid hBq
      have HW5 := Lib.hid (show Below w.heap.size w w5 from HW4.out.trans (hk5.below HG1.out HW4.out.size))
      rw [HD.out.1] at HBq
      have hnorm := norm_walk (some ⟨w2.heap.size, 0, none⟩) lb m ((pad m (Uu % Vv)).take lb) w5 (by rw [pad_take (by omega), pad_length]) (hBu.read.take lb) (Wd_take (Wd_pad _ _) _) (by omega) (by have := HM.out; omega) (by
        rw [pad_take (by omega), vl_pad_of HD.out.2.2.1]; have := (toL_length_le _ _).2 HD.out.2.2.1; have := HM.out; omega)
      rw [pad_take (by omega), vl_pad_of HD.out.2.2.1] at hnorm
      have HN := Lib.hid hnorm
      obtain ⟨nq, hnq⟩ : ∃ nq, m - lb = nq := ⟨_, rfl⟩
      rw [hnq] at HBq ⊢
      have HNq := Lib.hid hnq
      clear hnorm hBq hgq hBu hk5 HLong HB3 HB4 HB34 hnq
      go_wp2_with fail
      refine HN.out.mono ?_
      rintro e w6 ⟨v6, rfl, hv6, hb6⟩
      have hsh := shr_walk v6 (Uu % Vv) (s : Int) w6 hv6 (by have := (toL_length_le _ _).2 HD.out.2.2.1; have := HM.out; omega) (by omega) (by have := HM.out; omega)
      rw [Int.toNat_natCast, HD.out.2.1] at hsh
      have HSh := Lib.hid hsh
      obtain ⟨A6, c6, rfl, hc6, hr6⟩ := hv6
      have HW6 := Lib.hid (below_chain HW5.out hb6)
      have HBq6 := Lib.hid (HBq.out.below hb6)
      clear hr6 hc6 hb6 HN hsh HBq
      go_wp2_with fail
      refine HSh.out.mono ?_
      rintro e w7 ⟨v7, rfl, hv7, hb7⟩
      have HV7 := Lib.hid hv7
      obtain ⟨A7, c7, rfl, hc7, hr7⟩ := hv7
      have HW7 := Lib.hid (below_chain HW6.out hb7)
      have hBq7 := HBq6.out.below hb7
      have hql : a / b < W64 ^ nq := by rw [← HD.out.1, ← HNq.out, ← HMm.out]; exact HD.out.2.2.2.1
      have hnorm2 := norm_walk (some ⟨gq, 0, none⟩) nq nq (pad nq (a / b)) w7 (pad_length _ _) hBq7.read (Wd_pad _ _) (Nat.le_refl _) (by have := HMm.out; have := HM.out; have := HNq.out; omega) (by
        rw [vl_pad_of hql]; have := (toL_length_le _ _).2 hql; have := HMm.out; have := HM.out; have := HNq.out; omega)
      rw [vl_pad_of hql] at hnorm2
      have HN2 := Lib.hid hnorm2
      clear hr7 hc7 hb7 HSh hnorm2 hBq7 hql HBq6
      go_wp2_with fail
      refine HN2.out.mono ?_
      rintro e w8 ⟨v8, rfl, hv8, hb8⟩
      have HV8 := Lib.hid hv8
      obtain ⟨A8, c8, rfl, hc8, hr8⟩ := hv8
      clear hr8 hc8
      go_wp2
      refine bodyPost_ret (v := .tuple #[.slice A8 (toL (a / b)).length c8, .slice A7 (toL (a % b)).length c7, .int .i64 0]) (by simp [results, Tryz.results38, go_sem]) rfl ⟨_, _, rfl, HV8.out, HV7.out.below hb8, below_chain HW7.out hb8⟩
end Go.Proofs.YtibjogbalmbeeaaGreatDoor
