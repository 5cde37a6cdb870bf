/- Walk of natdiv: Read, of a text of digits. · Walks of strings.Builder: copyCheck, WriteByte (the shelf's own did not fit this dump: the loader refuses copyCheck's panic). · Own rows of bytes; walk of natdiv: Text. -/
import Derived.Test.YtibjogbalmbeeaaGreatDoorU15
import Derived.Test.YtibjogbalmbeeaaGreatDoorU06
import Derived.Test.YtibjogbalmbeeaaGreatDoorU12
import Derived.Lib.OthersKept
import Derived.Test.YtibjogbalmbeeaaGreatDoorU11
import Derived.Shelf.Strings.BuilderK
import Derived.Test.YtibjogbalmbeeaaGreatDoorU13
import Derived.Deep.LoopGhost
import Derived.WalkMore

namespace Go.Proofs.YtibjogbalmbeeaaGreatDoor
open Go.RowKit

theorem dcV_take_succ (s : ByteArray) (i : Nat) (h : i < s.size) : dcV (s.data.toList.take (i + 1)) = dcV (s.data.toList.take i) * 10 + dgV (by8 s i) := by
  have e : s.data.toList.take (i + 1) = s.data.toList.take i ++ [by8 s i] := by
    rw [List.take_succ_eq_append_getElem (by rw [Array.length_toList]; exact h)]
    congr 2
    unfold by8
    rw [List.getD_eq_getElem?_getD, List.getElem?_eq_getElem (by rw [Array.length_toList]; exact h)]; rfl
  rw [e, dcV_snoc]
theorem iter_cell {w : World} {k : Nat} {s : ByteArray} {pos : Nat} (hk : w.heap[k]? = some (.stringIter s pos)) {a : Addr} {v : Value} (hc : w.cell? a = some v) (p : Nat) : (w.iterAt k s p).cell? a = some v := by
  have hne : a.block ≠ k := fun e => by
    unfold World.cell? at hc
    rw [e, hk] at hc
    simp at hc
  unfold World.cell? at hc ⊢
  rw [Lib.iterAt_other _ _ _ _ _ hne]
  exact hc
theorem NatAt.iterAt {w : World} {k : Nat} {s : ByteArray} {pos : Nat} (hk : w.heap[k]? = some (.stringIter s pos)) {v : Value} {a : Nat} (h : NatAt w v a) (p : Nat) : NatAt (w.iterAt k s p) v a := by
  obtain ⟨A, c, e, hl, hr⟩ := h
  refine ⟨A, c, e, hl, fun hp => ?_⟩
  obtain ⟨ad, e2, hc⟩ := hr hp
  exact ⟨ad, e2, fun j hj => iter_cell hk (hc j hj) p⟩
def rdM : Nat := 4900
theorem short_of_digits {A n : Nat} (h : A < 10 ^ n) (hn : n ≤ 4900) : (toL A).length ≤ 400 := by
  obtain ⟨k, hk⟩ : ∃ k, k = 400 := ⟨_, rfl⟩
  rw [← hk]
  refine (toL_length_le _ _).2 (Nat.lt_of_lt_of_le h ?_)
  have h1 : 10 ^ n ≤ (2 ^ 4) ^ n := Nat.pow_le_pow_left (by omega) n
  rw [← Nat.pow_mul] at h1
  rw [W64_pow]
  exact Nat.le_trans h1 (Nat.pow_le_pow_right (by omega) (by omega))
/-- What stands when i digits are through: the number so far, what is not in it yet, how many digits that is. -/
def rdSt (s : ByteArray) (i A w0 t : Nat) : Prop := A * 10 ^ t + w0 = dcV (s.data.toList.take i) ∧ w0 < 10 ^ t ∧ t < 19 ∧ (i = s.size → t = 0)
theorem rd_next {s : ByteArray} (hd : s.data.toList.all dgQ = true) {i A w0 t : Nat} (h : rdSt s i A w0 t) (hi : i < s.size) (hs : s.size ≤ 4900) :
    w0 * 10 + dgV (by8 s i) < 10 ^ (t + 1) ∧ A * 10 ^ (t + 1) + (w0 * 10 + dgV (by8 s i)) = dcV (s.data.toList.take (i + 1)) ∧ dcV (s.data.toList.take (i + 1)) < 10 ^ rdM ∧ 10 ^ (t + 1) ≤ 10 ^ 19 := by
  obtain ⟨h1, h2, h3, _⟩ := h
  have hq : dgQ (by8 s i) = true := by
    have := List.all_eq_true.1 hd (by8 s i) (by
      unfold by8
      rw [List.getD_eq_getElem?_getD, List.getElem?_eq_getElem (by rw [Array.length_toList]; exact hi)]
      exact List.getElem_mem _)
    exact this
  obtain ⟨_, _, h9⟩ := dgQ_val hq
  have hl : (s.data.toList.take (i + 1)).all dgQ = true := List.all_eq_true.2 fun x hx => List.all_eq_true.1 hd x (List.mem_of_mem_take hx)
  have hlt := dcV_lt hl
  have hll : (s.data.toList.take (i + 1)).length ≤ 4900 := by
    rw [List.length_take, Array.length_toList]
    have : s.data.size = s.size := rfl
    omega
  refine ⟨?_, ?_, Nat.lt_of_lt_of_le hlt (Nat.pow_le_pow_right (by omega) hll), Nat.pow_le_pow_right (by omega) (by omega)⟩
  · rw [Nat.pow_succ]; omega
  · rw [dcV_take_succ s i hi, ← h1, Nat.pow_succ, ← Nat.mul_assoc, Nat.add_mul]; omega

set_option maxRecDepth 100000 in
set_option maxHeartbeats 1000000 in
theorem nread_walk (s : ByteArray) (w : World) (h0 : s.size ≠ 0) (hs : s.size ≤ 4900) (hd : s.data.toList.all dgQ = true) :
    Calls Tryz.prog 234 #[.string s] w fun e w' => ∃ v, e = .returned (.tuple #[v, .int .i64 0]) ∧ NatAt w' v (dcV s.data.toList) ∧ Below w.heap.size w w' := by
  have hE : s.toList.isEmpty = false := by rw [empty_iff]; exact decide_eq_false h0
  have hl : ¬ (4900 : Int) < (s.size : Int) := by omega
  have HD := Lib.hid hd
  clear hd
  go_enter Tryz.func234, Tryz.ntmps234
  go_wp2_with fail
  go_loopw [4, 5, 6] (fun av wv pv wr => ∃ i A w0 t : Nat, i ≤ s.size ∧ wv = .int .u64 (w0 : Int) ∧ pv = .int .u64 ((10 ^ t : Nat) : Int) ∧ Hid (rdSt s i A w0 t) ∧ Hid (NatAt wr av A) ∧ Hid (wr.heap[w.heap.size]? = some (.stringIter s i)) ∧ Hid (Below w.heap.size w wr)) (fun _ _ _ wr => s.size - wr.iterPos w.heap.size)
  case atStart => exact ⟨0, 0, 0, 0, by omega, rfl, rfl, Lib.hid ⟨by simp [dcV_nil], by omega, by omega, fun _ => rfl⟩, Lib.hid (NatAt.nil _), Lib.hid (World.iter_heap w s 0), Lib.hid (below_alloc' _ _)⟩
  case round =>
    obtain ⟨i, A, w0, t, hi, rfl, rfl, HR, HA, HI, HW⟩ := hrel
    by_cases hlt : i < s.size
    · have hb8 : s[i] = by8 s i := by
        unfold by8
        rw [List.getD_eq_getElem?_getD, List.getElem?_eq_getElem (by rw [Array.length_toList]; exact hlt)]; rfl
      have hq : dgQ (by8 s i) = true := List.all_eq_true.1 HD.out (by8 s i) (by
        unfold by8
        rw [List.getD_eq_getElem?_getD, List.getElem?_eq_getElem (by rw [Array.length_toList]; exact hlt)]
        exact List.getElem_mem _)
      obtain ⟨q1, q2, q3⟩ := dgQ_val hq
      have hnx := fun ty => Lib.run_next_ascii_at (P := Tryz.prog) wr w.heap.size s i ty HI.out hlt (by rw [hb8]; omega)
      rw [hb8] at hnx
      obtain ⟨r1, r2, r3, r4⟩ := rd_next HD.out HR.out hlt hs
      have hI2 := Lib.iterAt_heap wr w.heap.size s i (i + 1) HI.out
      have hA2 := HA.out.iterAt HI.out (i + 1)
      have hW2 := Lib.below_iterAt HW.out (k := w.heap.size) (Nat.le_refl _) s (i + 1)
      have hg2 : w.heap.size < (wr.iterAt w.heap.size s (i + 1)).heap.size := (Array.getElem?_eq_some_iff.1 hI2).1
      have hpos : wr.iterPos w.heap.size = i := by unfold World.iterPos; rw [HI.out]
      have e9 : ((by8 s i).toNat : Int) - 48 = ((dgV (by8 s i) : Nat) : Int) := by unfold dgV; omega
      have eT : (10 : Nat) ^ (t + 1) = 10 ^ t * 10 := Nat.pow_succ ..
      obtain ⟨w2, hw2⟩ : ∃ w2, w0 * 10 + dgV (by8 s i) = w2 := ⟨_, rfl⟩
      obtain ⟨p0, hp0⟩ : ∃ p0, (10 : Nat) ^ t = p0 := ⟨_, rfl⟩
      obtain ⟨p2, hp2⟩ : ∃ p2, (10 : Nat) ^ (t + 1) = p2 := ⟨_, rfl⟩
      obtain ⟨D, hD⟩ : ∃ D, dcV (s.data.toList.take (i + 1)) = D := ⟨_, rfl⟩
      have h19 : (10 : Nat) ^ 19 = 10000000000000000000 := by decide
      rw [hw2, hp2] at r1
      rw [hw2, hp2, hD] at r2
      rw [hD] at r3
      rw [hp2, h19] at r4
      rw [hp2, hp0] at eT
      rw [hp0]
      have hAl : A < 10 ^ rdM := by
        have : A * 1 ≤ A * p2 := Nat.mul_le_mul_left _ (by omega)
        omega
      have hAp : A * p2 < 10 ^ rdM := by omega
      generalize hcc : (by8 s i).toNat = cc at *
      generalize hdg : dgV (by8 s i) = dg at *
      have m1 : IntKind.u64.wrap ((w0 : Int) * 10) = ((w0 * 10 : Nat) : Int) := by rw [IntKind.wrap_u64]; omega
      have m2 : IntKind.i32.wrap ((cc : Int) - 48) = (dg : Int) := by rw [e9, IntKind.wrap_i32]; omega
      have m3 : IntKind.u64.wrap (dg : Int) = (dg : Int) := by rw [IntKind.wrap_u64]; omega
      have m4 : IntKind.u64.wrap (((w0 * 10 : Nat) : Int) + (dg : Int)) = (w2 : Int) := by rw [IntKind.wrap_u64]; omega
      have m4' : IntKind.u64.wrap ((w0 : Int) * 10 + (dg : Int)) = (w2 : Int) := by rw [IntKind.wrap_u64]; omega
      have m5 : IntKind.u64.wrap ((p0 : Int) * 10) = (p2 : Int) := by rw [IntKind.wrap_u64]; omega
      have m6 : IntKind.i64.wrap ((s.size : Int) - 1) = ((s.size - 1 : Nat) : Int) := by rw [IntKind.wrap_i64]; omega
      have m7 : ¬ (cc : Int) < 48 := by omega
      have m8 : ¬ (57 : Int) < (cc : Int) := by omega
      have HP := Lib.hid (show 10 ^ t = p0 ∧ 10 ^ (t + 1) = p2 ∧ w2 < p2 ∧ A * p2 + w2 = D ∧ D < 10 ^ rdM ∧ p2 ≤ 10000000000000000000 ∧ dcV (s.data.toList.take (i + 1)) = D ∧ t < 19 ∧ A < 10 ^ rdM ∧ A * p2 < 10 ^ rdM from ⟨hp0, hp2, r1, r2, r3, r4, hD, HR.out.2.2.1, hAl, hAp⟩)
      have HI2 := Lib.hid hI2
      have HA2 := Lib.hid hA2
      have HW2 := Lib.hid hW2
      have HPos := Lib.hid hpos
      have HG2 := Lib.hid hg2
      generalize hwi : wr.iterAt w.heap.size s (i + 1) = wi at *
      clear hb8 hq q1 q2 q3 r1 r2 r3 r4 hI2 hA2 hW2 e9 eT hw2 hp0 hp2 hD h19 hAl hAp hcc hdg hwi hpos HR HA HI hg2
      have p2W : p2 < W64 := by have := HP.out.2.2.2.2.2.1; rw [W64_num]; omega
      have w2W : w2 < W64 := by have := HP.out.2.2.1; omega
      have HWW := Lib.hid (show p2 < W64 ∧ w2 < W64 from ⟨p2W, w2W⟩)
      have hsh1 : (toL A).length ≤ 400 := short_of_digits HP.out.2.2.2.2.2.2.2.2.1 (Nat.le_refl _)
      have hsh2 : (toL (A * p2)).length ≤ 400 := short_of_digits HP.out.2.2.2.2.2.2.2.2.2 (Nat.le_refl _)
      have hsh3 : blen (A * p2 + w2) ≤ 524288 := by
        have h := short_of_digits (A := A * p2 + w2) (n := rdM) (by rw [HP.out.2.2.2.1]; exact HP.out.2.2.2.2.1) (Nat.le_refl _)
        rw [toL_length] at h; omega
      have HSh := Lib.hid (show (toL A).length ≤ 400 ∧ (toL (A * p2)).length ≤ 400 ∧ blen (A * p2 + w2) ≤ 524288 from ⟨hsh1, hsh2, hsh3⟩)
      clear hsh1 hsh2 hsh3 p2W w2W
      by_cases hf : p2 = 10000000000000000000 ∨ i = s.size - 1
      · have hcd : ((p2 : Int) == 10000000000000000000) = true ∨ (((p2 : Int) == 10000000000000000000) = false ∧ ((i : Int) == ((s.size - 1 : Nat) : Int)) = true) := by
          by_cases h : p2 = 10000000000000000000
          · exact .inl (by rw [beq_iff_eq]; omega)
          · exact .inr ⟨by rw [beq_eq_false_iff_ne]; omega, by rw [beq_iff_eq]; omega⟩
        clear hf
        rcases hcd with hcd | ⟨hcd, hce⟩
        all_goals
          go_wp2_with fail
          refine (mulword_walk _ A p2 _ HA2.out HWW.out.1 (by have := HSh.out; omega) (by have := HSh.out; omega)).mono ?_
          rintro e w3 ⟨v3, rfl, hv3, hb3⟩
          have HV3 := Lib.hid hv3
          have HB3 := Lib.hid hb3
          obtain ⟨A3, c3, rfl, hc3, hr3⟩ := hv3
          clear hc3 hr3 hb3
          go_wp2_with fail
          refine (word_walk w2 w3 HWW.out.2).mono ?_
          rintro e w4 ⟨v4, rfl, hv4, hb4⟩
          have HV4 := Lib.hid hv4
          have HB4 := Lib.hid (below_chain HB3.out hb4)
          have HV34 := Lib.hid (HV3.out.below hb4)
          obtain ⟨A4, c4, rfl, hc4, hr4⟩ := hv4
          clear hc4 hr4 hb4
          go_wp2_with fail
          refine (add_walk _ _ (A * p2) w2 w4 HV34.out HV4.out HSh.out.2.2).mono ?_
          rintro e w5 ⟨v5, rfl, hv5, hb5⟩
          have HV5 := Lib.hid (show NatAt w5 v5 (dcV (s.data.toList.take (i + 1))) by rw [HP.out.2.2.2.2.2.2.1, ← HP.out.2.2.2.1]; exact hv5)
          have HB5 := Lib.hid (below_chain HB4.out hb5)
          clear hv5 hb5
          go_wp2_with fail
          have hit5 : w5.heap[w.heap.size]? = some (.stringIter s (i + 1)) := (HB5.out.block _ HG2.out).trans HI2.out
          go_roundw
          case rel => exact ⟨i + 1, _, 0, 0, by omega, rfl, rfl, Lib.hid ⟨by simp, by omega, by omega, fun _ => rfl⟩, HV5, Lib.hid hit5, Lib.hid (HW2.out.trans (HB5.out.mono (Nat.le_of_lt HG2.out)))⟩
          case measure =>
            have e1 : w5.iterPos w.heap.size = i + 1 := by unfold World.iterPos; rw [hit5]
            rw [e1, HPos.out]; omega
      · have hcd : ((p2 : Int) == 10000000000000000000) = false := by rw [beq_eq_false_iff_ne]; omega
        have hce : ((i : Int) == ((s.size - 1 : Nat) : Int)) = false := by rw [beq_eq_false_iff_ne]; omega
        have HT := Lib.hid (show t + 1 < 19 by
          refine Nat.lt_of_le_of_ne (by have := HP.out; omega) fun e => hf (.inl ?_)
          have := HP.out.2.1
          rw [e] at this
          rw [← this])
        have HI3 := Lib.hid (show i + 1 ≠ s.size by omega)
        clear hf
        go_wp2_with fail
        go_roundw
        case rel => exact ⟨i + 1, A, w2, t + 1, by omega, rfl, by rw [HP.out.2.1], Lib.hid ⟨by rw [HP.out.2.1, HP.out.2.2.2.2.2.2.1]; exact HP.out.2.2.2.1, by rw [HP.out.2.1]; exact HP.out.2.2.1, HT.out, fun h => absurd h HI3.out⟩, HA2, HI2, HW2⟩
        case measure =>
          have e1 : wi.iterPos w.heap.size = i + 1 := by unfold World.iterPos; rw [HI2.out]
          rw [e1, HPos.out]; omega
    · have hie : i = s.size := by omega
      subst hie
      have hnx := fun ty => Lib.run_next_end_at (P := Tryz.prog) wr w.heap.size s s.size ty HI.out (by omega)
      obtain ⟨h1, h2, _, h4⟩ := HR.out
      have ht := h4 rfl
      subst ht
      have hA : A = dcV s.data.toList := by
        rw [List.take_of_length_le (by rw [Array.length_toList]; exact Nat.le_refl _)] at h1
        omega
      have HA2 := Lib.hid (show NatAt wr u4 (dcV s.data.toList) by rw [← hA]; exact HA.out)
      clear HA h1 h2 h4 hA HR
      go_wp2_with fail
      go_ret2
      exact ⟨_, rfl, HA2.out, HW.out⟩
end Go.Proofs.YtibjogbalmbeeaaGreatDoor

namespace Go.Proofs.YtibjogbalmbeeaaGreatDoor
open Go.RowKit

theorem bx : Builder.Extra Tryz.prog Tryz.lays169_ren := Tryz.Builder_Extra_169

set_option maxHeartbeats 1000000 in
set_option maxRecDepth 100000 in
theorem ccheck_used (b : Nat) (w : World) (h0 : w.cell? ⟨b, 0, none⟩ = some (.pointer (some ⟨b, 0, none⟩))) :
    Calls Tryz.prog 123 #[.pointer (some ⟨b, 0, none⟩)] w fun e w' => e = .returned (.tuple #[]) ∧ w' = w := by
  obtain ⟨j, hj, _⟩ := Option.map_eq_some_iff.1 bx.sizeBuilder
  go_enter Tryz.func123, Tryz.ntmps123
  go_wp2
  rw [Lib.run_neq_ptr_same w _ Tryz.underlying132 hj]
  go_wp2
  go_end0
  exact ⟨rfl, rfl⟩

set_option maxHeartbeats 1000000 in
set_option maxRecDepth 100000 in
theorem ccheck_fresh (b : Nat) (w : World) (h0 : w.cell? ⟨b, 0, none⟩ = some (.pointer none)) (hsh : w.shape? b = some (134, 2)) (hfz : w.frozen? ⟨b, 0, none⟩ = false) :
    Calls Tryz.prog 123 #[.pointer (some ⟨b, 0, none⟩)] w fun e w' => e = .returned (.tuple #[]) ∧ w' = w.setCell ⟨b, 0, none⟩ (.pointer (some ⟨b, 0, none⟩)) := by
  obtain ⟨j, hj, hjs⟩ := Option.map_eq_some_iff.1 bx.sizeBuilder
  go_enter Tryz.func123, Tryz.ntmps123
  go_wp2
  rw [Lib.run_to_unsafe w ⟨b, 0, none⟩ Tryz.underlying132 Tryz.underlying209 hj (by rw [hjs]; decide) hsh (Nat.zero_lt_succ 1)]
  simp only [Result.andThen]
  rw [Oper.upon_value]
  go_wp2
  rw [run_callFunc_extern Tryz.func154 (by kernel_rfl) (by kernel_rfl) (by kernel_rfl) (e := Extern.AbiNoEscape.same) (by kernel_rfl)]
  rw [Lib.run_noEscape]
  simp only [Result.andThen]
  rw [Oper.upon_value]
  go_wp2
  rw [Lib.run_from_unsafe w ⟨b, 0, none⟩ Tryz.underlying209 Tryz.underlying132 hj hsh bx.liesBuilder]
  simp only [Result.andThen]
  rw [Oper.upon_value]
  go_wp2
  go_end0
  exact ⟨rfl, rfl⟩

theorem ccheck_walk (B b : Nat) (bs : List Value) (w : World) (h : Lib.IsBuilderF 134 5 B b bs w) :
    Calls Tryz.prog 123 #[.pointer (some ⟨b, 0, none⟩)] w fun e w' => e = .returned (.tuple #[]) ∧ (Lib.BuilderAtF 134 5 B b (.pointer (some ⟨b, 0, none⟩)) bs w' ∧ Below B w w' ∧ Lib.OthersKept 5 (some b) w w') := by
  rcases h with h | h
  · refine (ccheck_fresh b w h.cell0 h.shape h.frozen0).mono ?_
    rintro e w' ⟨rfl, rfl⟩
    exact ⟨rfl, h.used _, (Below.refl B w).setCell (p := ⟨b, 0, none⟩) h.1 _, (Lib.OthersKept.refl _ _ w).setCell ⟨b, 0, none⟩ rfl _⟩
  · refine (ccheck_used b w h.cell0).mono ?_
    rintro e w' ⟨rfl, rfl⟩
    exact ⟨rfl, h, Below.refl B _, Lib.OthersKept.refl _ _ _⟩

set_option maxHeartbeats 2000000 in
set_option maxRecDepth 100000 in
theorem wbyte_walk (B b : Nat) (bs : List Value) (c : Int) (w : World) (h : Lib.IsBuilderF 134 5 B b bs w) (hlen : bs.length + 1 ≤ 140737488355328) (hBw : B ≤ w.heap.size) :
    Calls Tryz.prog 133 #[.pointer (some ⟨b, 0, none⟩), .int .u8 c] w fun e w' => e = .returned .nilIface ∧ (Lib.BuilderAtF 134 5 B b (.pointer (some ⟨b, 0, none⟩)) (bs ++ [.int .u8 c]) w' ∧ Below B w w' ∧ Lib.OthersKept 5 (some b) w w') := by
  obtain ⟨i0, hi, hz0, hz1, hz2⟩ := info_parts bx.infoByte
  go_enter Tryz.func133, Tryz.ntmps133
  go_wp2_with (go_at_call 123; refine (ccheck_walk B b bs _ h).mono ?_)
  rintro e w1 ⟨rfl, h1, hb1, hk1⟩
  obtain ⟨hB, v, hbk, hown, hne⟩ := h1
  have c0 : w1.cell? ⟨b, 0, none⟩ = some (.pointer (some ⟨b, 0, none⟩)) := by rw [Lib.cell_of_heap hbk]; rfl
  have c1 : w1.cell? ⟨b, 1, none⟩ = some v := by rw [Lib.cell_of_heap hbk]; rfl
  go_wp2_with (at_builtin; refine wpList_append_ownF _ rfl _ _ 38 rfl B 5 i0 (.int .u8 0) 1 1 Tryz.underlying38 hi hz0 hz1 hz2 rfl (by decide) _ _ _ rfl (hown.alloc _) ⟨w1.heap.size, 0, none⟩ 1 1 [.int .u8 c] rfl rfl ?c1 ?c2 ?c3 ?c4 ?c5 ?_)
  case c1 =>
    intro j u hj
    match j, hj with
    | 0, hj => simp at hj; subst hj; simp [Addr.add]
  case c2 => intro u hu; simp at hu; subst hu; rfl
  case c3 => unfold maxLen; omega
  case c4 => omega
  case c5 => have := hb1.size; simp; omega
  intro v' w2 hown' hgrow _
  have hlt : b < w1.heap.size := by
    rcases Nat.lt_or_ge b w1.heap.size with h' | h'
    · exact h'
    · simp [Array.getElem?_eq_none h'] at hbk
  have hb2 : w2.heap[b]? = some (.cells #[.pointer (some ⟨b, 0, none⟩), v] 134 (0, 0)) := by
    rw [hgrow.block b (by simp; omega) (fun e => hne e.symm), Lib.alloc_old w1 _ b hlt]
    exact hbk
  have d0 : w2.cell? ⟨b, 0, none⟩ = some (.pointer (some ⟨b, 0, none⟩)) := by rw [Lib.cell_of_heap hb2]; rfl
  have d1 : w2.cell? ⟨b, 1, none⟩ = some v := by rw [Lib.cell_of_heap hb2]; rfl
  have f1 : w2.frozen? ⟨b, 1, none⟩ = false := Lib.frozen_of_heap hb2 1
  obtain ⟨g, cap, rfl⟩ : ∃ g cap, v' = .slice (some ⟨g, 0, none⟩) (bs.length + 1) cap := by
    rcases hown'.2 with ⟨_, h0⟩ | ⟨g, cap, cur, fz, hv, _⟩
    · omega
    · exact ⟨g, cap, hv⟩
  go_wp2
  go_ret
  refine ⟨rfl, ?_, ?_, ((hk1.alloc _).grown hgrow (Lib.ownsRowF_kind (hown.alloc _))).setCell ⟨b, 1, none⟩ rfl _⟩
  · exact Lib.BuilderAtF.put (T := 134) (e := 5) hB hb2 (bs' := bs ++ [.int .u8 c]) (by simpa using hown') (by decide)
  · exact ((hb1.alloc (by have := hb1.size; omega) _).grown hgrow (by have := hb1.size; simp; omega) (fun k hk => (hown.lt k hk).1)).setCell (p := ⟨b, 1, none⟩) hB _
end Go.Proofs.YtibjogbalmbeeaaGreatDoor

namespace Go.Proofs.YtibjogbalmbeeaaGreatDoor
open Go.RowKit

theorem Tryz.infoB : (Tryz.prog.info? 5).map (fun i => (i.zero, i.size, i.bytes)) = some (some (.int .u8 0), 1, 1) := by kernel_rfl
/-- v is a slice of the call's own that holds the bytes l. -/
def OwB (w : World) (B : Nat) (v : Value) (l : List UInt8) : Prop := w.ownsRow B 5 1 v l.length (Lib.byteCells l)
theorem OwB.nil (w : World) (B : Nat) : OwB w B (.slice none 0 0) [] := World.ownsRow_nil w B _ _
theorem OwB.below {w w' : World} {B : Nat} {v : Value} {l : List UInt8} (h : OwB w B v l) (hb : Below w.heap.size w w') : OwB w' B v l :=
  World.ownsRow.kept h (row := none) ⟨hb.os, hb.tape, hb.output, hb.size, fun j hj _ => hb.block j hj⟩ (by cases hv : v.ownBlock <;> simp)
/-- append(s, b) where s is a slice of the call's own. -/
theorem wpList_append1 {W : World} {ops : Array Oper} {rest : List Oper} {o : Oper} {a : Act} {Q : Exit → Act → World → Prop} (hgd : o.guard = none) (s x : Operand)
    (ho : o.op = .call { callee := .builtin .append, args := #[s, x], argTypes := #[38, 38] }) (B : Nat) (v : Value) (l : List UInt8) (hs : a.eval s = v) (hown : OwB W B v l)
    (ad : Addr) (b : UInt8) (hx : a.eval x = .slice (some ad) 1 1) (hnew : W.cell? (ad.add 0) = some (.int .u8 ((b.toNat : Nat) : Int)))
    (hlen : l.length + 1 ≤ 1000000) (hB : B ≤ W.heap.size)
    (h : ∀ v' w', OwB w' B v' (l ++ [b]) → W.grownBy w' v.ownBlock → wpList Tryz.prog ops Q rest (a.put o.dst v') w') : wpList Tryz.prog ops Q (o :: rest) a W := by
  obtain ⟨i0, hi, hz0, hz1, hz2⟩ := info_parts Tryz.infoB
  refine wpList_append_own W hgd s x 38 ho B 5 i0 (.int .u8 0) 1 1 Tryz.underlying38 hi hz0 hz1 hz2 rfl (by decide) v l.length (Lib.byteCells l) hs hown ad 1 1 [.int .u8 ((b.toNat : Nat) : Int)] hx
    rfl (fun j u hu => ?_) (fun u hu => ?_) (by unfold maxLen; omega) (by omega) hB (fun v' w' h1 h2 _ => ?_)
  · match j, hu with
    | 0, hu => simp at hu; subst hu; exact hnew
  · simp at hu; subst hu; rfl
  · refine h v' w' ?_ h2
    unfold OwB
    rw [List.length_append, Lib.byteCells_append]
    exact h1
/-- A natural whose limbs lie below B, or in a row of words. -/
def NatK (B : Nat) (w : World) (v : Value) (x : Nat) : Prop := NatAt w v x ∧ ∀ A n c, v = .slice A n c → 0 < n → ∃ ad, A = some ad ∧ (ad.block < B ∨ ∃ cur fz, w.heap[ad.block]? = some (.cells cur 23 fz))
theorem NatT.k {w : World} {v : Value} {x : Nat} (h : NatT w v x) (B : Nat) : NatK B w v x := ⟨h.1, fun A n c e hn => by
  obtain ⟨ad, cur, fz, e2, h2⟩ := h.2 A n c e hn
  exact ⟨ad, e2, .inr ⟨cur, fz, h2⟩⟩⟩
theorem NatAt.k {w : World} {v : Value} {x : Nat} (h : NatAt w v x) : NatK w.heap.size w v x := ⟨h, fun A n c e hn => by
  obtain ⟨A2, c2, e2, hl, hr⟩ := h
  rw [e2] at e
  injection e with e3 e4 e5
  subst e3; subst e4
  obtain ⟨ad, ea, hc⟩ := hr hn
  refine ⟨ad, ea, .inl ?_⟩
  have := World.block_lt_of_cell? w _ (hc 0 hn)
  rw [add_block] at this
  exact this⟩
theorem NatK.kept {B : Nat} {w w' : World} {v : Value} {x : Nat} (h : NatK B w v x) (hk : ∀ k, k < w.heap.size → (k < B ∨ ∃ cur fz, w.heap[k]? = some (.cells cur 23 fz)) → w'.heap[k]? = w.heap[k]?) : NatK B w' v x := by
  obtain ⟨⟨A, c, e, hl, hr⟩, h2⟩ := h
  refine ⟨⟨A, c, e, hl, fun hp => ?_⟩, fun A2 n2 c2 e2 hn => ?_⟩
  · obtain ⟨ad, ea, hc⟩ := hr hp
    obtain ⟨ad2, ea2, hor⟩ := h2 A _ c e hp
    rw [ea] at ea2
    injection ea2 with ea2
    subst ea2
    refine ⟨ad, ea, fun j hj => ?_⟩
    have hlt := World.block_lt_of_cell? w _ (hc j hj)
    rw [World.cell?_of_block (hk _ hlt (by rw [add_block]; exact hor))]
    exact hc j hj
  · obtain ⟨ad, ea, hor⟩ := h2 A2 n2 c2 e2 hn
    refine ⟨ad, ea, ?_⟩
    rcases hor with h3 | ⟨cur, fz, h3⟩
    · exact .inl h3
    · exact .inr ⟨cur, fz, (hk _ (Array.getElem?_eq_some_iff.1 h3).1 (.inr ⟨cur, fz, h3⟩)).trans h3⟩
theorem NatK.below {B : Nat} {w w' : World} {v : Value} {x : Nat} (h : NatK B w v x) (hb : Below w.heap.size w w') : NatK B w' v x := h.kept fun k hk _ => hb.block k hk
theorem NatK.grown {B : Nat} {w w' : World} {v bv : Value} {x : Nat} {l : List UInt8} (h : NatK B w v x) (ho : OwB w B bv l) (hg : w.grownBy w' bv.ownBlock) : NatK B w' v x := h.kept fun k hk hor => by
  refine hg.block k hk fun e => ?_
  rcases ho.2 with ⟨e1, _⟩ | ⟨g, cap, cur, e1, h1, h2, _⟩
  · rw [e1] at e; simp [Value.ownBlock] at e
  · rw [e1] at e
    simp [Value.ownBlock] at e
    subst e
    rcases hor with h3 | ⟨cur2, fz, h3⟩
    · omega
    · rw [h2] at h3
      injection h3 with h3
      injection h3 with _ h4
      exact absurd h4 (by decide)
theorem OwB.cells {w : World} {B : Nat} {v : Value} {l : List UInt8} (h : OwB w B v l) : ∃ A cap, v = .slice A l.length cap ∧ l.length ≤ cap ∧ ∀ W, Below w.heap.size w W → ∀ i b, l[i]? = some b → ∃ ad, A = some ad ∧ W.cell? (ad.add i) = some (.int .u8 ((b.toNat : Nat) : Int)) := by
  rcases h.2 with ⟨e1, h0⟩ | ⟨g, cap, cur, e1, h1, h2, h3, _⟩
  · refine ⟨none, 0, by rw [e1, h0], by omega, fun W _ i b hi => ?_⟩
    have := (List.getElem?_eq_some_iff.1 hi).1
    omega
  · refine ⟨some ⟨g, 0, none⟩, cap, e1, h3, fun W hW i b hi => ⟨_, rfl, ?_⟩⟩
    refine cell_kept hW ?_
    have h4 : w.ownsRow B 5 1 v l.length (Lib.byteCells l) := h
    rw [e1] at h4
    exact h4.cells (g := g) rfl i _ (by rw [Lib.byteCells, List.getElem?_map, hi]; rfl)
theorem new_byte (W : World) (b : UInt8) : (W.alloc (.cells #[.int .u8 ((b.toNat : Nat) : Int)] 5)).cell? ((⟨W.heap.size, 0, none⟩ : Addr).add 0) = some (.int .u8 ((b.toNat : Nat) : Int)) := by
  simp [Addr.add]

set_option maxRecDepth 100000 in
set_option maxHeartbeats 2000000 in
theorem text_walk (v : Value) (a m : Nat) (w : World) (h : NatAt w v a) (ha : a < 10 ^ m) (hm : m ≤ 1500) (hm1 : 1 ≤ m) :
    Calls Tryz.prog 88 #[v] w fun e w' => e = .returned (.tuple #[.string ⟨(Lib.decDigits a).toArray⟩, .int .i64 0]) ∧ Below w.heap.size w w' := by
  have hsz : (toL a).length ≤ 400 := short_of_digits ha (by omega)
  obtain ⟨fu, hfu⟩ : ∃ fu, fu = 6000 := ⟨_, rfl⟩
  have hbl : blen a ≤ fu := by
    refine blen_le.2 (Nat.lt_of_lt_of_le ha ?_)
    have h1 : 10 ^ m ≤ (2 ^ 4) ^ m := Nat.pow_le_pow_left (by omega) m
    rw [← Nat.pow_mul] at h1
    exact Nat.le_trans h1 (Nat.pow_le_pow_right (by omega) (by omega))
  have hdl : (Lib.decDigits a).length ≤ 1500 := Nat.le_trans (decDigits_len ha hm1) hm
  have hK := h.k
  have hfa := form_walk v a w h (by omega)
  obtain ⟨A, c, rfl, hc, hr⟩ := h
  have hbits := bits_walk A (toL a).length c (toL a) w rfl hr (Wd_toL a) hc (by omega)
  rw [vl_toL] at hbits
  have HF := Lib.hid hfa
  have HBt := Lib.hid hbits
  have HK := Lib.hid hK
  have HD := Lib.hid hdl
  have hbl2 : ¬ (16278 : Int) < (blen a : Int) := by omega
  have HA0 := Lib.hid (show a < 2 ^ fu from blen_le.1 hbl)
  have HSz := Lib.hid hsz
  clear hfa hbits hr hK ha hm hm1 hdl hbl hc hsz
  go_enter Tryz.func88, Tryz.ntmps88
  go_wp2_with (first | (go_at_call 78; refine HF.out.mono ?_; rintro e w' ⟨rfl, rfl⟩) | (go_at_call 75; refine HBt.out.mono ?_; rintro e w' ⟨rfl, rfl⟩))
  clear hbl2
  go_loopg [0, 4] fu (fun g av bv wr => ∃ k : Nat, k + g = fu ∧ Hid (a / 10 ^ (19 * k) < 2 ^ g) ∧ Hid (NatK w.heap.size wr av (a / 10 ^ (19 * k))) ∧ Hid (OwB wr w.heap.size bv (rdg a (19 * k))) ∧ Hid (Below w.heap.size w wr))
  case atStart => exact ⟨0, by omega, Lib.hid (by rw [Nat.mul_zero, Nat.pow_zero, Nat.div_one]; exact HA0.out), Lib.hid (by rw [Nat.mul_zero, Nat.pow_zero, Nat.div_one]; exact HK.out), Lib.hid (OwB.nil _ _), Lib.hid (Below.refl _ _)⟩
  case round =>
    obtain ⟨k, hkg, HX, HN, HO, HW⟩ := hrel
    obtain ⟨wo, hwo⟩ : ∃ wo, wo = wr := ⟨_, rfl⟩
    subst hwo
    obtain ⟨x, hx⟩ : ∃ x, a / 10 ^ (19 * k) = x := ⟨_, rfl⟩
    rw [hx] at HX HN
    have HXe := Lib.hid hx
    have hnk := HN.out
    have HNat := Lib.hid hnk.1
    obtain ⟨⟨A2, c2, rfl, hc2, hr2⟩, _⟩ := hnk
    clear hr2
    by_cases h0 : x = 0
    · have hl0 : ((toL x).length : Int) = 0 := by have := (toL_length_zero x).2 h0; omega
      have hl0' : ¬ (0 : Int) < ((toL x).length : Int) := by omega
      have hlt : a < 10 ^ (19 * k) := by
        rw [h0] at hx
        exact (Nat.div_eq_zero_iff.1 hx).resolve_left (by have := Nat.pow_pos (n := 19 * k) (show 0 < 10 by omega); omega)
      have HS := Lib.hid (strip0_digits hlt)
      obtain ⟨A3, cap, rfl, hcap, hcells⟩ := HO.out.cells
      rw [rdg_length] at hcap ⊢
      have HC := Lib.hid hcells
      obtain ⟨n, hn⟩ : ∃ n, 19 * k = n := ⟨_, rfl⟩
      rw [hn] at HS HC hcap ⊢
      have hnb : n ≤ 114000 := by omega
      clear hcells hlt h0 hx HX HN HNat HXe hl0 hc2 HO hn hkg
      go_wp2_with fail
      have hI0 : Lib.IsBuilderF 134 5 wo.heap.size wo.heap.size (Lib.byteCells (strip0 (hdg a n 0))) (wo.alloc (.cells #[.pointer none, .slice none 0 0] 134)) := Lib.IsBuilderF.of (Lib.fresh_isBuilder _ _ wo)
      have HI0 := Lib.hid hI0
      clear hI0
      go_loopw [41] (fun iv wr => ∃ i : Nat, i ≤ n ∧ iv = .int .i64 (i : Int) ∧ Hid (Lib.IsBuilderF 134 5 wo.heap.size wo.heap.size (Lib.byteCells (strip0 (hdg a n i))) wr) ∧ Hid (Below wo.heap.size wo wr)) (fun iv _ => n - (intOf iv).toNat)
      case atStart => exact ⟨0, by omega, rfl, HI0, Lib.hid (below_alloc' _ _)⟩
      case round =>
        obtain ⟨i, hi, rfl, HI, HW3⟩ := hrel
        have hsl := strip0_len (hdg a n i)
        have hll : (hdg a n i).length = i := by simp [hdg]
        by_cases hin : i < n
        · obtain ⟨d, hd⟩ : ∃ d, a / 10 ^ (n - 1 - i) % 10 = d := ⟨_, rfl⟩
          obtain ⟨q1, q2, q3⟩ := digit_byte (u := d) (by rw [← hd]; exact Nat.mod_lt _ (by omega))
          obtain ⟨ad, rfl, hcl⟩ := HC.out _ HW3.out (n - 1 - i) _ (rdg_get a n (n - 1 - i) (by omega))
          have hsn := strip0_snoc (hdg a n i) (UInt8.ofNat (48 + a / 10 ^ (n - 1 - i) % 10))
          rw [← hdg_succ, hd] at hsn
          rw [hd] at hcl
          have hc48 : UInt8.ofNat (48 + d) = 48 ↔ d = 0 := by
            constructor
            · intro e
              have := congrArg UInt8.toNat e
              rw [q3] at this
              have h48 : (48 : UInt8).toNat = 48 := rfl
              omega
            · intro e; subst e; rfl
          have hd9 : d ≤ 9 := by have := Nat.mod_lt (a / 10 ^ (n - 1 - i)) (show 0 < 10 by omega); omega
          obtain ⟨l, hl⟩ : ∃ l, strip0 (hdg a n i) = l := ⟨_, rfl⟩
          obtain ⟨l2, hl2⟩ : ∃ l2, strip0 (hdg a n (i + 1)) = l2 := ⟨_, rfl⟩
          obtain ⟨c, hcc⟩ : ∃ c, UInt8.ofNat (48 + d) = c := ⟨_, rfl⟩
          rw [hl] at hsn hsl HI
          rw [hl2] at hsn
          rw [hcc] at hsn hc48 q3 hcl
          obtain ⟨j, hj⟩ : ∃ j, n - 1 - i = j := ⟨_, rfl⟩
          rw [hj] at hcl
          have p1 : IntKind.i64.wrap ((n : Int) - 1) = (n : Int) - 1 := by rw [IntKind.wrap_i64]; omega
          have p2 : IntKind.i64.wrap ((n : Int) - 1 - (i : Int)) = (j : Int) := by rw [IntKind.wrap_i64]; omega
          have p3 : (j : Int) < (n : Int) := by omega
          have p4 : IntKind.i64.wrap ((i : Int) + 1) = (i : Int) + 1 := by rw [IntKind.wrap_i64]; omega
          have hbl3 : (Lib.byteCells l).length = l.length := Lib.byteCells_length l
          have hl63 : l.length ≤ 114000 := by omega
          have HL2 := Lib.hid hl2
          have HBw := Lib.hid (show wo.heap.size ≤ wr.heap.size from HW3.out.size)
          have HLen := Lib.hid (show (Lib.byteCells l).length + 1 ≤ 140737488355328 by rw [hbl3]; omega)
          have hwrite : Hid (l2 = l ++ [c] → ∀ w', Lib.BuilderAtF 134 5 wo.heap.size wo.heap.size (.pointer (some ⟨wo.heap.size, 0, none⟩)) (Lib.byteCells l ++ [.int .u8 ((c.toNat : Nat) : Int)]) w' → Lib.IsBuilderF 134 5 wo.heap.size wo.heap.size (Lib.byteCells (strip0 (hdg a n (i + 1)))) w') := Lib.hid fun e w' hb => by
            rw [hl2, e, Lib.byteCells_append]; exact .inr hb
          by_cases hz : d = 0
          · have hcc2 : (((c.toNat : Nat) : Int) != 48) = false := by rw [bne_eq_false_iff_eq, q3, hz]; rfl
            by_cases hle : l = []
            · have hlz : ((l.length : Nat) : Int) = 0 := by rw [hle]; rfl
              have hgt : ¬ (0 : Int) < ((l.length : Nat) : Int) := by omega
              rw [if_pos hle, if_pos (hc48.2 hz)] at hsn
              have HI2 := Lib.hid (show Lib.IsBuilderF 134 5 wo.heap.size wo.heap.size (Lib.byteCells (strip0 (hdg a n (i + 1)))) wr by rw [hl2, hsn, ← hle]; exact HI.out)
              clear hsn hl2 hcc hc48 q1 q2 q3 hd hl hsl hll hz hle hj hlz
              go_wp2_with (go_at_call 71; refine (Tryz.Builder_Len_f _ _ _ _ HI.out).mono ?_; rintro e w' ⟨rfl, hw9⟩; have hw8 := hw9.symm; subst hw8; rw [hbl3])
              go_roundw
              case rel => exact ⟨i + 1, by omega, by go_num, HI2, HW3⟩
              case measure => simp [intOf]; omega
            · have hgt : (0 : Int) < ((l.length : Nat) : Int) := by
                have : l.length ≠ 0 := fun e => hle (List.eq_nil_of_length_eq_zero e)
                omega
              rw [if_neg hle] at hsn
              have HE := Lib.hid hsn
              clear hsn hl2 hcc hc48 q1 q2 q3 hd hl hsl hll hz hle hj
              go_wp2_with (first | (go_at_call 71; refine (Tryz.Builder_Len_f _ _ _ _ HI.out).mono ?_; rintro e w' ⟨rfl, hw9⟩; have hw8 := hw9.symm; subst hw8; rw [hbl3]) | (go_at_call 133; refine (wbyte_walk wo.heap.size wo.heap.size _ _ _ HI.out HLen.out HBw.out).mono ?_; rintro e w4 ⟨rfl, hi4, hb4, _⟩))
              go_roundw
              case rel => exact ⟨i + 1, by omega, by go_num, Lib.hid (hwrite.out HE.out _ hi4), Lib.hid (HW3.out.trans hb4)⟩
              case measure => simp [intOf]; omega
          · have hcc2 : (((c.toNat : Nat) : Int) != 48) = true := by rw [bne_iff_ne, q3]; omega
            have HE := Lib.hid (show l2 = l ++ [c] by
              rw [hsn]
              by_cases hle : l = []
              · rw [if_pos hle, if_neg (fun e => hz (hc48.1 e)), hle]; rfl
              · rw [if_neg hle])
            clear hsn hl2 hcc hc48 q1 q2 q3 hd hl hsl hll hz hj
            go_wp2_with (go_at_call 133; refine (wbyte_walk wo.heap.size wo.heap.size _ _ _ HI.out HLen.out HBw.out).mono ?_; rintro e w4 ⟨rfl, hi4, hb4, _⟩)
            go_roundw
            case rel => exact ⟨i + 1, by omega, by go_num, Lib.hid (hwrite.out HE.out _ hi4), Lib.hid (HW3.out.trans hb4)⟩
            case measure => simp [intOf]; omega
        · have hin2 : i = n := by omega
          subst hin2
          have hii : ¬ (i : Int) < (i : Int) := by omega
          have hst := HS.out
          have hbl3 := Lib.byteCells_length (strip0 (hdg a i i))
          have HBw := Lib.hid (show wo.heap.size ≤ wr.heap.size from HW3.out.size)
          by_cases ha0 : a = 0
          · rw [if_pos ha0] at hst
            rw [hst] at hbl3
            have hlz : (((Lib.byteCells (strip0 (hdg a i i))).length : Nat) : Int) = 0 := by rw [hst, hbl3]; rfl
            have HR := Lib.hid (show (⟨#[48]⟩ : ByteArray) = ⟨(Lib.decDigits a).toArray⟩ by rw [ha0, Lib.decDigits]; rfl)
            clear hst hbl3 ha0 hll hsl
            go_wp2_with (go_at_call 71; refine (Tryz.Builder_Len_f _ _ _ _ HI.out).mono ?_; rintro e w' ⟨rfl, hw9⟩; have hw8 := hw9.symm; subst hw8; rw [hlz])
            go_ret2
            exact ⟨by rw [← HR.out]; rfl, HW.out.trans (HW3.out.mono HW.out.size)⟩
          · rw [if_neg ha0] at hst
            have hI := HI.out
            rw [hst] at hbl3 hI
            have hne := (dcV_digits a).2.2.2
            have hdl := HD.out
            obtain ⟨L, hL⟩ : ∃ L, (Lib.decDigits a).length = L := ⟨_, rfl⟩
            rw [hL] at hbl3 hne hdl
            have hb1 : ((L : Int) == 0) = false := by rw [beq_eq_false_iff_ne]; omega
            have hb2 : ¬ (4900 : Int) < (L : Int) := by omega
            have HI2 := Lib.hid hI
            clear hst ha0 hll hsl hI hL hne hdl
            go_wp2_with (first | (go_at_call 71; refine (Tryz.Builder_Len_f _ _ _ _ HI2.out).mono ?_; rintro e w' ⟨rfl, hw9⟩; have hw8 := hw9.symm; subst hw8; rw [hbl3]) | (go_at_call 72; refine (Tryz.Builder_String_any_k wo.heap.size wo.heap.size _ _ HI2.out HBw.out).mono ?_; rintro e w4 ⟨rfl, _, hb4, _⟩))
            go_ret2
            exact ⟨rfl, HW.out.trans ((HW3.out.trans hb4).mono HW.out.size)⟩
    · have hg : 1 ≤ gk := by
        refine Nat.one_le_iff_ne_zero.2 fun e => h0 ?_
        have := HX.out
        rw [e, Nat.pow_zero] at this; omega
      obtain ⟨f, rfl⟩ : ∃ f, gk = f + 1 := ⟨gk - 1, by omega⟩
      have hl0' : (0 : Int) < ((toL x).length : Int) := by
        have : (toL x).length ≠ 0 := fun e => h0 ((toL_length_zero x).1 e)
        omega
      have hxs : (toL x).length ≤ 400 := by
        have h1 := (toL_length_le a 400).1 HSz.out
        refine (toL_length_le x 400).2 (Nat.lt_of_le_of_lt ?_ h1)
        rw [← hx]; exact Nat.div_le_self _ _
      have HSx := Lib.hid (show (toL x).length ≤ 8192 by omega)
      have HTen := Lib.hid (show (0 : Nat) < 10000000000000000000 ∧ 10000000000000000000 < W64 from ⟨by omega, by rw [W64_num]; omega⟩)
      have hXn : x / 10000000000000000000 < 2 ^ f := by
        have h1 := HX.out
        rw [Nat.pow_succ] at h1
        rw [Nat.div_lt_iff_lt_mul (by omega)]
        have h2 : 2 ^ f * 2 ≤ 2 ^ f * 10000000000000000000 := Nat.mul_le_mul_left _ (by omega)
        omega
      have hXn2 : x / 10000000000000000000 = a / 10 ^ (19 * (k + 1)) := by
        rw [← hx, Nat.div_div_eq_div_mul, Nat.mul_add, Nat.mul_one, Nat.pow_add, show (10 : Nat) ^ 19 = 10000000000000000000 by decide]
      have hdig : ∀ t, t < 19 → x % 10000000000000000000 / 10 ^ t % 10 = a / 10 ^ (19 * k + t) % 10 := fun t ht => by
        have h1 := chunk_digit (x := x) ht
        rw [show (10 : Nat) ^ 19 = 10000000000000000000 by decide] at h1
        rw [h1, ← hx, Nat.div_div_eq_div_mul, ← Nat.pow_add]
      have HXn := Lib.hid hXn
      have HXn2 := Lib.hid hXn2
      have HDg := Lib.hid hdig
      have HKg := Lib.hid (show k + 1 + f = fu ∧ fu = 6000 from ⟨by omega, hfu⟩)
      obtain ⟨r0, hr0⟩ : ∃ r0, x % 10000000000000000000 = r0 := ⟨_, rfl⟩
      rw [hr0] at HDg
      have HR0 := Lib.hid (show r0 < 10000000000000000000 by rw [← hr0]; exact Nat.mod_lt _ (by omega))
      have HCall := Lib.hid (divword_walkT (.slice A2 (toL x).length c2) x 10000000000000000000 wo HNat.out HTen.out.1 HTen.out.2 HSx.out)
      rw [hr0] at HCall
      clear h0 hg hxs hXn hXn2 hdig hr0 hx HX HN HXe hc2 hkg hfu HTen HSx HNat
      go_wp2_with fail
      refine HCall.out.mono ?_
      rintro e w2 ⟨v3, rfl, hT3, hb2⟩
      have HN3 := Lib.hid (hT3.k w.heap.size)
      have HO2 := Lib.hid (HO.out.below hb2)
      have HW2 := Lib.hid (below_chain HW.out hb2)
      obtain ⟨q, hq⟩ : ∃ q, x / 10000000000000000000 = q := ⟨_, rfl⟩
      rw [hq] at HN3 HXn HXn2
      obtain ⟨⟨A3, c3, rfl, hc3, hr3⟩, _⟩ := HN3.out
      clear hr3 hc3 hT3 hb2 HCall HO HW hq
      go_wp2_with fail
      go_loopw [4, 6, 26] (fun bv rv iv wx => ∃ t : Nat, t ≤ 19 ∧ iv = .int .i64 (t : Int) ∧ rv = .int .u64 ((r0 / 10 ^ t : Nat) : Int) ∧ Hid (OwB wx w.heap.size bv (rdg a (19 * k + t))) ∧ Hid (NatK w.heap.size wx (.slice A3 (toL q).length c3) q) ∧ Hid (Below w.heap.size w wx)) (fun _ _ iv _ => 19 - (intOf iv).toNat)
      case atStart => exact ⟨0, by omega, rfl, by rw [Nat.pow_zero, Nat.div_one], HO2, HN3, HW2⟩
      case round =>
        obtain ⟨t, ht, rfl, rfl, HOt, HNt, HWt⟩ := hrel
        have hrl : r0 / 10 ^ t < 10000000000000000000 := Nat.lt_of_le_of_lt (Nat.div_le_self _ _) HR0.out
        by_cases hlt : t < 19
        · have hd := HDg.out t hlt
          have hsn := rdg_succ a (19 * k + t)
          rw [← hd] at hsn
          have hnx : r0 / 10 ^ t / 10 = r0 / 10 ^ (t + 1) := by rw [Nat.pow_succ, Nat.div_div_eq_div_mul]
          obtain ⟨r, hr⟩ : ∃ r, r0 / 10 ^ t = r := ⟨_, rfl⟩
          obtain ⟨r2, hr2⟩ : ∃ r2, r0 / 10 ^ (t + 1) = r2 := ⟨_, rfl⟩
          rw [hr] at hsn hnx hrl ⊢
          rw [hr2] at hnx
          obtain ⟨d, hdd⟩ : ∃ d, r % 10 = d := ⟨_, rfl⟩
          rw [hdd] at hsn
          obtain ⟨q1, q2, q3⟩ := digit_byte (u := d) (by rw [← hdd]; exact Nat.mod_lt _ (by omega))
          obtain ⟨c, hcc⟩ : ∃ c, UInt8.ofNat (48 + d) = c := ⟨_, rfl⟩
          rw [hcc] at hsn q3
          have hd9 : d ≤ 9 := by have := Nat.mod_lt r (show 0 < 10 by omega); omega
          have hl1 : (rdg a (19 * k + t)).length + 1 ≤ 1000000 := by rw [rdg_length]; have := HKg.out; omega
          have m1 : IntKind.u64.wrap ((r : Int).tmod 10) = (d : Int) := by rw [Int.tmod_eq_emod_of_nonneg (by omega), IntKind.wrap_u64]; omega
          have m1' : (r : Int).tmod 10 = (d : Int) := by rw [Int.tmod_eq_emod_of_nonneg (by omega)]; omega
          have m1'' : (r : Int) % 10 = (d : Int) := by omega
          have m2 : IntKind.u64.wrap (48 + (d : Int)) = ((c.toNat : Nat) : Int) := by rw [q3, IntKind.wrap_u64]; omega
          have m3 : IntKind.u8.wrap ((c.toNat : Nat) : Int) = ((c.toNat : Nat) : Int) := by rw [q3, IntKind.wrap_u8]; omega
          have m4 : (r : Int) / 10 = (r2 : Int) := by omega
          have m4' : (r : Int).tdiv 10 = (r2 : Int) := by rw [Int.tdiv_eq_ediv_of_nonneg (by omega)]; exact m4
          have m5 : IntKind.u64.wrap (r2 : Int) = (r2 : Int) := by rw [IntKind.wrap_u64]; omega
          have m6 : IntKind.u64.wrap (d : Int) = (d : Int) := by rw [IntKind.wrap_u64]; omega
          have HSn := Lib.hid hsn
          have HR2 := Lib.hid hr2
          have HB0 := Lib.hid (show w.heap.size ≤ wr.heap.size from HWt.out.size)
          clear hsn hnx hr hr2 hdd hcc q1 q2 q3 hd hd9 hrl
          go_wp2_with (at_builtin; refine wpList_append1 rfl (.tmp 28) (.tmp 33) rfl w.heap.size _ (rdg a (19 * k + t)) rfl (HOt.out.below (below_alloc' _ _)) ⟨wr.heap.size, 0, none⟩ c rfl (new_byte wr c) hl1 (by have := HB0.out; simp; omega) (fun v' w1 h1 h2 => ?_))
          have hO1 := HOt.out.below (below_alloc' wr (.cells #[.int .u8 ((c.toNat : Nat) : Int)] 5))
          have hN1 := HNt.out.below (below_alloc' wr (.cells #[.int .u8 ((c.toNat : Nat) : Int)] 5))
          rw [← HSn.out] at h1
          go_roundw
          case rel => exact ⟨t + 1, by omega, by go_num, by rw [HR2.out], Lib.hid h1, Lib.hid (hN1.grown hO1 h2), Lib.hid ((HWt.out.alloc HB0.out _).grown h2 (by have := HB0.out; simp; omega) (fun k hk => (World.ownsRow.lt hO1 k hk).1))⟩
          case measure => simp [intOf]; omega
        · have ht2 : t = 19 := by omega
          subst ht2
          clear hlt hrl
          go_wp2_with fail
          go_roundg f
          case rel => exact ⟨k + 1, HKg.out.1, by rw [← HXn2.out]; exact HXn, by rw [← HXn2.out]; exact HNt, by rw [Nat.mul_add, Nat.mul_one]; exact HOt, HWt⟩
          case measure => omega
end Go.Proofs.YtibjogbalmbeeaaGreatDoor
