/- Walks of calc: a desk's line that begins with a constant's word or a function's, its stack empty. · The walk of calc's Line, its stack empty at first; Line where line gives up. · The walk of CalcReadsBack. · The walk of the law CalcReadsBack. -/
import Derived.Test.YtibjogbalmbeeaaGreatDoorU35
import Derived.Deep.DeepCutAuto
import Derived.Test.YtibjogbalmbeeaaGreatDoorU24
import Derived.Test.YtibjogbalmbeeaaGreatDoorU33
import Derived.Test.YtibjogbalmbeeaaGreatDoorU32

namespace Go.Proofs.YtibjogbalmbeeaaGreatDoor
open Go.RowKit

/-- The reader's state where its stack is empty. -/
def Se (w W : World) (g : Nat) (s : ByteArray) (n : Nat) (D L : Value) (d : Nat) (h : Int) : Prop := Below g w W ∧ Em W g s n D L d h
theorem Se.piece {w W : World} {g s n D L d h} (H : Se w W g s n D L d h) :
    W.cell? ⟨g, 2, none⟩ = some (.int .i64 (knd s n : Int)) ∧ W.cell? ⟨g, 3, none⟩ = some (.string (txt s n)) ∧ W.cell? ⟨g, 4, none⟩ = some (.int .i64 (plc s n : Int)) := Em.piece H.2
theorem Se.below {w W W' : World} {g s n D L d h} (H : Se w W g s n D L d h) (hb : Below W.heap.size W W') : Se w W' g s n D L d h := ⟨H.1.trans (hb.mono (Nat.le_of_lt (Em.lt H.2))), H.2.below hb⟩
theorem Se.st {w W : World} {g s n D L d h} (H : Se w W g s n D L d h) : St w W g s n D L d h [] := ⟨H.1, _, H.2, OwV.nil _ _⟩

set_option maxRecDepth 100000 in
set_option maxHeartbeats 2000000 in
theorem desk_line_f {w W : World} {g q : Nat} {s : ByteArray} {L m : Value} {hx sl : Bool} {x : Nat} {T' : ByteArray} (H : Se w W g s 0 (.pointer (some ⟨q, 0, none⟩)) L 0 (-1))
    (hD : DkB W q m hx sl) (hq : q < g) (hs : s.size ≤ 100000) (hk : knd s 0 = 1)
    (hdr : ((txt s 0).toList == [100, 114, 111, 112]) = false) (hcm : ∀ U, Calls Tryz.prog 52 #[.string (txt s 0)] U fun e w' => e = .returned (.bool false) ∧ w' = U)
    (hnm : ∀ U, Calls Tryz.prog 55 #[.agg #[.int .i64 1, .string (txt s 0), .int .i64 (plc s 0 : Int)]] U fun e w' => e = .returned (.bool false) ∧ Below U.heap.size U w')
    (hV : ∀ U, Se w U g s 0 (.pointer (some ⟨q, 0, none⟩)) L 0 (-1) → Calls Tryz.prog 58 #[.pointer (some ⟨g, 0, none⟩)] U fun e w' => e = .returned (.int .u64 (x : Int)) ∧ Below g w w' ∧ g < w'.heap.size)
    (hP : ∀ U, Below g w U → DkB U q m hx sl → Calls Tryz.prog 59 #[.pointer (some ⟨q, 0, none⟩), .int .u64 (x : Int)] U fun e w' => e = .returned (.string T') ∧ Below U.heap.size U w') :
    Calls Tryz.prog 27 #[.pointer (some ⟨q, 0, none⟩), .pointer (some ⟨g, 0, none⟩)] W fun e w' => e = .returned (.string T') ∧ Below g w w' ∧ DkB w' q m hx sl := by
  have hDw : ∀ U, Se w U g s 0 (.pointer (some ⟨q, 0, none⟩)) L 0 (-1) → Below g W U → DkB U q m hx sl := fun U _ hb => hD.keep hb hq
  obtain ⟨c2, c3, c4⟩ := H.piece
  have hcut := fun U => ccut_walk s (nxt s 0) (nxt_le (Nat.zero_le _)) hs U
  rw [hk] at c2
  have HCm := Lib.hid hcm
  obtain ⟨hb0, hr0⟩ := id H
  have hr : RdB W g s (nxt s 0) (knd s 0) (txt s 0) (plc s 0) (.pointer (some ⟨q, 0, none⟩)) L 0 (.slice none 0 0) (-1) := hr0
  have c0 : W.cell? ⟨g, 0, none⟩ = some (.string s) := hr.cell 0
  have c1 : W.cell? ⟨g, 1, none⟩ = some (.int .i64 (nxt s 0 : Int)) := hr.cell 1
  have hlt := hr.lt
  have HD0 := Lib.hid (show DkB w q m hx sl from (hb0.block q hq).symm.trans hD)
  have HST := Lib.hid H
  have HV := Lib.hid hV
  have HP := Lib.hid hP
  have HK := Lib.hid hD
  have HG := Lib.hid hlt
  have HQ := Lib.hid hq
  generalize txt s 0 = t at *
  generalize plc s 0 = a at *
  generalize nxt s 0 = n at *
  generalize (cutK s (ovr pBln s n)).2 = n' at *
  generalize (cutK s (ovr pBln s n)).1 = k' at *
  generalize cutT s (ovr pBln s n) = t' at *
  generalize ovr pBln s n = a' at *
  have HC := Lib.hid hcut
  have HN := Lib.hid hnm
  have hA := below_alloc' W (.cells #[.int .i64 1, .string t, .int .i64 (a : Int)] 66)
  have HB0 := Lib.hid (show Box3 (W.alloc (.cells #[.int .i64 1, .string t, .int .i64 (a : Int)] 66)) W.heap.size (.int .i64 1) (.string t) (.int .i64 (a : Int)) from ⟨by simp, by simp, by simp, by simp, by simp, by simp, by simp⟩)
  have y0 := cell_kept hA c0
  have y1 := cell_kept hA c1
  have HA := Lib.hid hA
  clear H hD hq hs hk hcm hV hP hDw hcut hnm hb0 hr hr0 hlt hA
  go_enter Tryz.func27, Tryz.ntmps27
  go_upto_region 13 with (refine (HCm.out _).mono ?_; rintro e wq ⟨rfl, hw⟩; (have h0 := hw.symm); subst h0; clear hw)
  go_cut [6, 7] (fun s6 s7 wx => (∃ p, s6 = .pointer (some p)) ∧ s7 = .int .i64 (n' : Int) ∧ Hid (Below (W.alloc (.cells #[.int .i64 1, .string t, .int .i64 (a : Int)] 66)).heap.size (W.alloc (.cells #[.int .i64 1, .string t, .int .i64 (a : Int)] 66)) wx))
  case first =>
    have HZ := Lib.hid (show Box3 ((W.alloc (.cells #[.int .i64 1, .string t, .int .i64 (a : Int)] 66)).alloc (.cells #[.int .i64 0, .string ⟨#[]⟩, .int .i64 0] 66)).drew (W.heap.size + 1) (.int .i64 0) (.string ⟨#[]⟩) (.int .i64 0) from (show Box3 ((W.alloc (.cells #[.int .i64 1, .string t, .int .i64 (a : Int)] 66)).alloc (.cells #[.int .i64 0, .string ⟨#[]⟩, .int .i64 0] 66)) (W.heap.size + 1) (.int .i64 0) (.string ⟨#[]⟩) (.int .i64 0) from ⟨by simp, by simp, by simp, by simp, by simp, by simp, by simp⟩))
    have v0 := cell_kept (below_alloc' _ (.cells #[.int .i64 0, .string ⟨#[]⟩, .int .i64 0] 66)) y0
    have v1 := cell_kept (below_alloc' _ (.cells #[.int .i64 0, .string ⟨#[]⟩, .int .i64 0] 66)) y1
    go_region_with ((go_at_call 50; first
      | (refine (HC.out (W.alloc (.cells #[.int .i64 1, .string t, .int .i64 (a : Int)] 66)).drew).mono ?_; rintro e w1 ⟨rfl, hb⟩; have HB := Lib.hid hb; clear hb)
      | (refine (HC.out ((W.alloc (.cells #[.int .i64 1, .string t, .int .i64 (a : Int)] 66)).alloc (.cells #[.int .i64 0, .string ⟨#[]⟩, .int .i64 0] 66)).drew).mono ?_; rintro e w1 ⟨rfl, hb⟩; obtain ⟨x0, x1, x2, z0, z1, z2, _⟩ := HZ.out.below hb; have HB := Lib.hid hb; clear hb)))
    all_goals go_wp2_with fail
    all_goals go_meet
    all_goals first
      | exact ⟨⟨_, rfl⟩, rfl, Lib.hid (below_chain ((below_dn (Below.refl _ _) 1).trans HB.out) (below_alloc' _ _))⟩
      | exact ⟨⟨_, rfl⟩, rfl, Lib.hid ((((below_chain (below_dn (below_alloc' _ _) 1) HB.out).setCell (p := ⟨W.heap.size + 1, 0, none⟩) (by simp) _).setCell (p := ⟨W.heap.size + 1, 1, none⟩) (by simp) _).setCell (p := ⟨W.heap.size + 1, 2, none⟩) (by simp) _)⟩
  case rest =>
    obtain ⟨⟨p6, rfl⟩, rfl, HX⟩ := hcut
    obtain ⟨r0, r1, r2, _⟩ := HB0.out.below HX.out
    have HS := Lib.hid ((HST.out.below HA.out).below HX.out)
    have HK2 := Lib.hid ((HK.out.keep HA.out HK.out.lt).keep HX.out (HK.out.keep HA.out HK.out.lt).lt)
    clear HC HB0 HST HA HX HK c0 c1 y0 y1 c2 c3 c4
    go_wp2_with fail
    refine (HN.out _).mono ?_
    rintro e w2 ⟨rfl, hb2⟩
    have HS2 := Lib.hid (HS.out.below hb2)
    have HK3 := Lib.hid (HK2.out.keep hb2 HK2.out.lt)
    have HV2 := Lib.hid (HV.out w2 HS2.out)
    clear hb2 HS HK2 HN r0 r1 r2
    go_wp2_with fail
    refine HV2.out.mono ?_
    rintro e w3 ⟨rfl, h3⟩
    have HK4 := Lib.hid (HD0.out.keep h3.1 HQ.out)
    have HP3 := Lib.hid (HP.out w3 h3.1 HK4.out)
    have HS3 := Lib.hid h3
    clear h3 HV2 HK3
    go_wp2_with fail
    refine HP3.out.mono ?_
    rintro e w4 ⟨rfl, h4⟩
    have HW4 := Lib.hid (HS3.out.1.trans (h4.mono (Nat.le_of_lt HS3.out.2)))
    have HK5 := Lib.hid (HD0.out.keep HW4.out HQ.out)
    clear h4
    go_wp2_with fail
    exact bodyPost_ret (v := .string T') (by simp [results, Tryz.results27, go_sem]) rfl ⟨rfl, HW4.out, HK5.out⟩
set_option maxRecDepth 100000 in
set_option maxHeartbeats 2000000 in
theorem desk_line_f_no {w W : World} {g q : Nat} {s : ByteArray} {L m : Value} {hx sl : Bool} {ch : List PanicEntry} (H : Se w W g s 0 (.pointer (some ⟨q, 0, none⟩)) L 0 (-1))
    (hD : DkB W q m hx sl) (hq : q < g) (hs : s.size ≤ 100000) (hk : knd s 0 = 1)
    (hdr : ((txt s 0).toList == [100, 114, 111, 112]) = false) (hcm : ∀ U, Calls Tryz.prog 52 #[.string (txt s 0)] U fun e w' => e = .returned (.bool false) ∧ w' = U)
    (hnm : ∀ U, Calls Tryz.prog 55 #[.agg #[.int .i64 1, .string (txt s 0), .int .i64 (plc s 0 : Int)]] U fun e w' => e = .returned (.bool false) ∧ Below U.heap.size U w')
    (hV : ∀ U, Se w U g s 0 (.pointer (some ⟨q, 0, none⟩)) L 0 (-1) → Calls Tryz.prog 58 #[.pointer (some ⟨g, 0, none⟩)] U fun e w' => e = .panicked ch ∧ Below g w w') :
    Calls Tryz.prog 27 #[.pointer (some ⟨q, 0, none⟩), .pointer (some ⟨g, 0, none⟩)] W fun e w' => e = .panicked ch ∧ Below g w w' ∧ DkB w' q m hx sl := by
  have hDw : ∀ U, Se w U g s 0 (.pointer (some ⟨q, 0, none⟩)) L 0 (-1) → Below g W U → DkB U q m hx sl := fun U _ hb => hD.keep hb hq
  obtain ⟨c2, c3, c4⟩ := H.piece
  have hcut := fun U => ccut_walk s (nxt s 0) (nxt_le (Nat.zero_le _)) hs U
  rw [hk] at c2
  have HCm := Lib.hid hcm
  obtain ⟨hb0, hr0⟩ := id H
  have hr : RdB W g s (nxt s 0) (knd s 0) (txt s 0) (plc s 0) (.pointer (some ⟨q, 0, none⟩)) L 0 (.slice none 0 0) (-1) := hr0
  have c0 : W.cell? ⟨g, 0, none⟩ = some (.string s) := hr.cell 0
  have c1 : W.cell? ⟨g, 1, none⟩ = some (.int .i64 (nxt s 0 : Int)) := hr.cell 1
  have hlt := hr.lt
  have HD0 := Lib.hid (show DkB w q m hx sl from (hb0.block q hq).symm.trans hD)
  have HST := Lib.hid H
  have HV := Lib.hid hV
  have HK := Lib.hid hD
  have HG := Lib.hid hlt
  have HQ := Lib.hid hq
  generalize txt s 0 = t at *
  generalize plc s 0 = a at *
  generalize nxt s 0 = n at *
  generalize (cutK s (ovr pBln s n)).2 = n' at *
  generalize (cutK s (ovr pBln s n)).1 = k' at *
  generalize cutT s (ovr pBln s n) = t' at *
  generalize ovr pBln s n = a' at *
  have HC := Lib.hid hcut
  have HN := Lib.hid hnm
  have hA := below_alloc' W (.cells #[.int .i64 1, .string t, .int .i64 (a : Int)] 66)
  have HB0 := Lib.hid (show Box3 (W.alloc (.cells #[.int .i64 1, .string t, .int .i64 (a : Int)] 66)) W.heap.size (.int .i64 1) (.string t) (.int .i64 (a : Int)) from ⟨by simp, by simp, by simp, by simp, by simp, by simp, by simp⟩)
  have y0 := cell_kept hA c0
  have y1 := cell_kept hA c1
  have HA := Lib.hid hA
  clear H hD hq hs hk hcm hV hDw hcut hnm hb0 hr hr0 hlt hA
  go_enter Tryz.func27, Tryz.ntmps27
  go_upto_region 13 with (refine (HCm.out _).mono ?_; rintro e wq ⟨rfl, hw⟩; (have h0 := hw.symm); subst h0; clear hw)
  go_cut [6, 7] (fun s6 s7 wx => (∃ p, s6 = .pointer (some p)) ∧ s7 = .int .i64 (n' : Int) ∧ Hid (Below (W.alloc (.cells #[.int .i64 1, .string t, .int .i64 (a : Int)] 66)).heap.size (W.alloc (.cells #[.int .i64 1, .string t, .int .i64 (a : Int)] 66)) wx))
  case first =>
    have HZ := Lib.hid (show Box3 ((W.alloc (.cells #[.int .i64 1, .string t, .int .i64 (a : Int)] 66)).alloc (.cells #[.int .i64 0, .string ⟨#[]⟩, .int .i64 0] 66)).drew (W.heap.size + 1) (.int .i64 0) (.string ⟨#[]⟩) (.int .i64 0) from (show Box3 ((W.alloc (.cells #[.int .i64 1, .string t, .int .i64 (a : Int)] 66)).alloc (.cells #[.int .i64 0, .string ⟨#[]⟩, .int .i64 0] 66)) (W.heap.size + 1) (.int .i64 0) (.string ⟨#[]⟩) (.int .i64 0) from ⟨by simp, by simp, by simp, by simp, by simp, by simp, by simp⟩))
    have v0 := cell_kept (below_alloc' _ (.cells #[.int .i64 0, .string ⟨#[]⟩, .int .i64 0] 66)) y0
    have v1 := cell_kept (below_alloc' _ (.cells #[.int .i64 0, .string ⟨#[]⟩, .int .i64 0] 66)) y1
    go_region_with ((go_at_call 50; first
      | (refine (HC.out (W.alloc (.cells #[.int .i64 1, .string t, .int .i64 (a : Int)] 66)).drew).mono ?_; rintro e w1 ⟨rfl, hb⟩; have HB := Lib.hid hb; clear hb)
      | (refine (HC.out ((W.alloc (.cells #[.int .i64 1, .string t, .int .i64 (a : Int)] 66)).alloc (.cells #[.int .i64 0, .string ⟨#[]⟩, .int .i64 0] 66)).drew).mono ?_; rintro e w1 ⟨rfl, hb⟩; obtain ⟨x0, x1, x2, z0, z1, z2, _⟩ := HZ.out.below hb; have HB := Lib.hid hb; clear hb)))
    all_goals go_wp2_with fail
    all_goals go_meet
    all_goals first
      | exact ⟨⟨_, rfl⟩, rfl, Lib.hid (below_chain ((below_dn (Below.refl _ _) 1).trans HB.out) (below_alloc' _ _))⟩
      | exact ⟨⟨_, rfl⟩, rfl, Lib.hid ((((below_chain (below_dn (below_alloc' _ _) 1) HB.out).setCell (p := ⟨W.heap.size + 1, 0, none⟩) (by simp) _).setCell (p := ⟨W.heap.size + 1, 1, none⟩) (by simp) _).setCell (p := ⟨W.heap.size + 1, 2, none⟩) (by simp) _)⟩
  case rest =>
    obtain ⟨⟨p6, rfl⟩, rfl, HX⟩ := hcut
    obtain ⟨r0, r1, r2, _⟩ := HB0.out.below HX.out
    have HS := Lib.hid ((HST.out.below HA.out).below HX.out)
    have HK2 := Lib.hid ((HK.out.keep HA.out HK.out.lt).keep HX.out (HK.out.keep HA.out HK.out.lt).lt)
    clear HC HB0 HST HA HX HK c0 c1 y0 y1 c2 c3 c4
    go_wp2_with fail
    refine (HN.out _).mono ?_
    rintro e w2 ⟨rfl, hb2⟩
    have HS2 := Lib.hid (HS.out.below hb2)
    have HK3 := Lib.hid (HK2.out.keep hb2 HK2.out.lt)
    have HV2 := Lib.hid (HV.out w2 HS2.out)
    clear hb2 HS HK2 HN r0 r1 r2
    go_wp2_with fail
    refine HV2.out.mono ?_
    rintro e w3 ⟨rfl, h3⟩
    have H3 := Lib.hid h3
    have HK4 := Lib.hid (HD0.out.keep h3 HQ.out)
    clear h3 HV2
    go_wp2_with fail
    exact ⟨rfl, rfl, H3.out, HK4.out⟩

end Go.Proofs.YtibjogbalmbeeaaGreatDoor

namespace Go.Proofs.YtibjogbalmbeeaaGreatDoor
open Go.RowKit

set_option maxRecDepth 100000 in
set_option maxHeartbeats 4000000 in
theorem line_fault (p : Nat) (a e : Int) (older : List PanicEntry) (w : World) {r0 r1 r2 : Value} (H : Box3 w p r0 r1 r2) :
    CallsD Tryz.prog 24 #[.pointer (some ⟨p, 0, none⟩)] (.panicking (cfault a e :: older)) w fun x u' w' =>
      x = .returned (.tuple #[]) ∧ u' = .panicking ({ cfault a e with recovered := true } :: older) ∧ w' = (((w.alloc (.cells #[.int .i64 a, .int .i64 e] 57)).setCell ⟨p, 0, none⟩ (.string ⟨#[]⟩)).setCell ⟨p, 1, none⟩ (.int .i64 a)).setCell ⟨p, 2, none⟩ (.int .i64 e) := by
  have h1 := H.below (below_alloc' w (.cells #[.int .i64 a, .int .i64 e] 57))
  obtain ⟨k0, k1, k2, k3, k4, k5, _⟩ := h1
  refine callsD_of_wpS Tryz.func24 rfl fun c₀ cs hu => ?_
  apply wpS_seq
  apply wpS_region
  unfold cfault at hu
  simp [wpOpsS, go_sem, recoverD, hu, Tryz.ntmps24, Exit.thenS]
  refine wpS_of_wp ?_
  have hfr : (#[Value.pointer (some ⟨p, 0, none⟩)] ++ ((Array.replicate 19 undef).setIfInBounds 3 (Value.iface 57 (.agg #[.int .i64 a, .int .i64 e]))).setIfInBounds 0 (Value.iface 57 (.agg #[.int .i64 a, .int .i64 e])) : Array Value) = #[.pointer (some ⟨p, 0, none⟩), .iface 57 (.agg #[.int .i64 a, .int .i64 e]), undef, undef, .iface 57 (.agg #[.int .i64 a, .int .i64 e]), undef, undef, undef, undef, undef, undef, undef, undef, undef, undef, undef, undef, undef, undef, undef] := rfl
  rw [hfr]
  clear hfr
  have hta : ∀ w1 : World, (Instr.typeAssert (.iface 57 (.agg #[.int .i64 a, .int .i64 e])) 20 57 true).run Tryz.prog w1 = .ok (.tuple #[.agg #[.int .i64 a, .int .i64 e], .bool true]) w1 := fun _ => by kernel_rfl
  go_wp2
  cases c₀
  simp_all [bodyPostS, results, Tryz.results24, cfault]

set_option maxRecDepth 100000 in
set_option maxHeartbeats 2000000 in
theorem LineE_walk {w : World} {q : Nat} {m : Value} {hx hx' : Bool} (s R : ByteArray) (hD : DkB w q m hx false) (hs : s.size ≤ 1000)
    (hL : ∀ (w1 W : World) (g : Nat) (L : Value), Below w.heap.size w w1 → w1.heap.size = g → Se w1 W g s 0 (.pointer (some ⟨q, 0, none⟩)) L 0 (-1) → Calls Tryz.prog 27 #[.pointer (some ⟨q, 0, none⟩), .pointer (some ⟨g, 0, none⟩)] W fun e w' => e = .returned (.string R) ∧ DkB w' q m hx' false ∧ w1.grownBy w' (some q)) :
    Calls Tryz.prog 11 #[.pointer (some ⟨q, 0, none⟩), .string s] w fun e w' => e = .returned (.agg #[.string R, .int .i64 0, .int .i64 0]) ∧ DkB w' q m hx' false ∧ w.grownBy w' (some q) := by
  have hmf : ∀ (fn : Fn) (first cap : Array Value) (w : World), (Instr.makeFunc fn first cap).run Tryz.prog w = .ok (.func fn first cap) w := fun _ _ _ _ => rfl
  have hA := below_alloc' w (.cells #[.string ⟨#[]⟩, .int .i64 0, .int .i64 0] 31)
  have HR0 := Lib.hid (show Box3 (w.alloc (.cells #[.string ⟨#[]⟩, .int .i64 0, .int .i64 0] 31)) w.heap.size (.string ⟨#[]⟩) (.int .i64 0) (.int .i64 0) from ⟨by simp, by simp, by simp, by simp, by simp, by simp, by simp⟩)
  have c2 : (w.alloc (.cells #[.string ⟨#[]⟩, .int .i64 0, .int .i64 0] 31)).cell? ⟨q, 2, none⟩ = some (.bool false) := (hD.keep hA hD.lt).cell 2
  have hl : ¬ (1000 : Int) < (s.size : Int) := by omega
  have HA := Lib.hid hA
  have HD := Lib.hid hD
  have HL := Lib.hid hL
  have HS := Lib.hid hs
  have HT := Lib.hid (fun W => trignew_walk W)
  clear hA hD hL hs
  go_enter_defers Tryz.func11, Tryz.ntmps11
  go_wp2_with fail
  refine (HT.out _).mono ?_
  rintro e w1 ⟨pL, rfl, hb1⟩
  have hW1 := below_chain HA.out hb1
  have HR1 := Lib.hid (HR0.out.below hb1)
  have hrd : RdB (w1.alloc (.cells #[.string s, .int .i64 0, .int .i64 0, .string ⟨#[]⟩, .int .i64 0, .pointer (some ⟨q, 0, none⟩), .pointer (some pL), .int .i64 0, .slice none 0 0, .int .i64 (-1)] 71)) w1.heap.size s 0 0 ⟨#[]⟩ 0 (.pointer (some ⟨q, 0, none⟩)) (.pointer (some pL)) 0 (.slice none 0 0) (-1) := heap_alloc_new _ _
  have HSp := Lib.hid (step_walk hrd (Nat.zero_le _) (by have := HS.out; omega))
  have HL1 := Lib.hid (fun W (hW : Se w1 W w1.heap.size s 0 (.pointer (some ⟨q, 0, none⟩)) (.pointer (some pL)) 0 (-1)) => HL.out w1 W w1.heap.size (.pointer (some pL)) hW1 rfl hW)
  have HW1 := Lib.hid hW1
  clear hb1 hW1 hrd HR0 HT HL
  go_wp2_with fail
  refine HSp.out.mono ?_
  rintro e w2 ⟨rfl, h2, h3⟩
  have hst : Se w1 w2 w1.heap.size s 0 (.pointer (some ⟨q, 0, none⟩)) (.pointer (some pL)) 0 (-1) := ⟨(below_alloc' w1 _).trans (grb_below h3 (by simp)), h2⟩
  have HL2 := Lib.hid (HL1.out w2 hst)
  clear h2 h3 hst HL1 HSp
  go_wp2_with fail
  refine HL2.out.mono ?_
  rintro e w3 ⟨rfl, h3, h4⟩
  have hqp : w.heap.size ≠ q := by have := HD.out.lt; omega
  have HR3 := Lib.hid (HR1.out.grb h4 hqp)
  have HR4 := Lib.hid (HR3.out.put (u0 := .string R) (u1 := .int .i64 0) (u2 := .int .i64 0))
  have hG : w.grownBy w3 (some q) := grb_trans (grb_of q HW1.out) h4
  have HG := Lib.hid (grb_new (grb_new (grb_new hG ⟨w.heap.size, 0, none⟩ (Nat.le_refl _) (.string R)) ⟨w.heap.size, 1, none⟩ (Nat.le_refl _) (.int .i64 0)) ⟨w.heap.size, 2, none⟩ (Nat.le_refl _) (.int .i64 0))
  have HK := Lib.hid (((h3.away (p := ⟨w.heap.size, 0, none⟩) hqp (.string R)).away (p := ⟨w.heap.size, 1, none⟩) hqp (.int .i64 0)).away (p := ⟨w.heap.size, 2, none⟩) hqp (.int .i64 0))
  obtain ⟨r0, r1, r2, f0, f1, f2, _⟩ := HR3.out
  clear h3 h4 hG HL2 HR1 HW1 HR3 hqp
  have hp := HR4.out
  unfold put3 at hp
  obtain ⟨e0, e1, e2, _⟩ := hp
  go_wp2
  refine leaves_cons (f := 24) (args := #[.pointer (some ⟨w.heap.size, 0, none⟩)]) (by simp) (by simp [go_sem]) ?_
  refine (line_idle _ _).mono ?_
  rintro e u' w'' ⟨rfl, rfl, rfl⟩
  exact ⟨.agg #[.string R, .int .i64 0, .int .i64 0], by simp [results, Tryz.results11, go_sem, e0, e1, e2], rfl, HK.out, HG.out⟩
set_option maxRecDepth 100000 in
set_option maxHeartbeats 2000000 in
theorem LineE_no {w : World} {q : Nat} {m : Value} {hx hx' : Bool} (s : ByteArray) (a e : Int) (hD : DkB w q m hx false) (hs : s.size ≤ 1000)
    (hL : ∀ (w1 W : World) (g : Nat) (L : Value), Below w.heap.size w w1 → w1.heap.size = g → Se w1 W g s 0 (.pointer (some ⟨q, 0, none⟩)) L 0 (-1) → Calls Tryz.prog 27 #[.pointer (some ⟨q, 0, none⟩), .pointer (some ⟨g, 0, none⟩)] W fun x w' => x = .panicked [cfault a e] ∧ DkB w' q m hx' false ∧ w1.grownBy w' (some q)) :
    Calls Tryz.prog 11 #[.pointer (some ⟨q, 0, none⟩), .string s] w fun x w' => x = .returned (.agg #[.string ⟨#[]⟩, .int .i64 a, .int .i64 e]) ∧ DkB w' q m hx' false ∧ w.grownBy w' (some q) := by
  have hmf : ∀ (fn : Fn) (first cap : Array Value) (w : World), (Instr.makeFunc fn first cap).run Tryz.prog w = .ok (.func fn first cap) w := fun _ _ _ _ => rfl
  have hA := below_alloc' w (.cells #[.string ⟨#[]⟩, .int .i64 0, .int .i64 0] 31)
  have HR0 := Lib.hid (show Box3 (w.alloc (.cells #[.string ⟨#[]⟩, .int .i64 0, .int .i64 0] 31)) w.heap.size (.string ⟨#[]⟩) (.int .i64 0) (.int .i64 0) from ⟨by simp, by simp, by simp, by simp, by simp, by simp, by simp⟩)
  have c2 : (w.alloc (.cells #[.string ⟨#[]⟩, .int .i64 0, .int .i64 0] 31)).cell? ⟨q, 2, none⟩ = some (.bool false) := (hD.keep hA hD.lt).cell 2
  have hl : ¬ (1000 : Int) < (s.size : Int) := by omega
  have HA := Lib.hid hA
  have HD := Lib.hid hD
  have HL := Lib.hid hL
  have HS := Lib.hid hs
  have HT := Lib.hid (fun W => trignew_walk W)
  clear hA hD hL hs
  go_enter_defers Tryz.func11, Tryz.ntmps11
  go_wp2_with fail
  refine (HT.out _).mono ?_
  rintro x w1 ⟨pL, rfl, hb1⟩
  have hW1 := below_chain HA.out hb1
  have HR1 := Lib.hid (HR0.out.below hb1)
  have hrd : RdB (w1.alloc (.cells #[.string s, .int .i64 0, .int .i64 0, .string ⟨#[]⟩, .int .i64 0, .pointer (some ⟨q, 0, none⟩), .pointer (some pL), .int .i64 0, .slice none 0 0, .int .i64 (-1)] 71)) w1.heap.size s 0 0 ⟨#[]⟩ 0 (.pointer (some ⟨q, 0, none⟩)) (.pointer (some pL)) 0 (.slice none 0 0) (-1) := heap_alloc_new _ _
  have HSp := Lib.hid (step_walk hrd (Nat.zero_le _) (by have := HS.out; omega))
  have HL1 := Lib.hid (fun W (hW : Se w1 W w1.heap.size s 0 (.pointer (some ⟨q, 0, none⟩)) (.pointer (some pL)) 0 (-1)) => HL.out w1 W w1.heap.size (.pointer (some pL)) hW1 rfl hW)
  have HW1 := Lib.hid hW1
  clear hb1 hW1 hrd HR0 HT HL
  go_wp2_with fail
  refine HSp.out.mono ?_
  rintro x w2 ⟨rfl, h2, h3⟩
  have hst : Se w1 w2 w1.heap.size s 0 (.pointer (some ⟨q, 0, none⟩)) (.pointer (some pL)) 0 (-1) := ⟨(below_alloc' w1 _).trans (grb_below h3 (by simp)), h2⟩
  have HL2 := Lib.hid (HL1.out w2 hst)
  clear h2 h3 hst HL1 HSp
  go_wp2_with fail
  refine HL2.out.mono ?_
  rintro x w3 ⟨rfl, h3, h4⟩
  have hqp : w.heap.size ≠ q := by have := HD.out.lt; omega
  have HR3 := Lib.hid (HR1.out.grb h4 hqp)
  have hb5 := below_alloc' w3 (.cells #[.int .i64 a, .int .i64 e] 57)
  have HR4 := Lib.hid ((HR3.out.below hb5).put (u0 := .string ⟨#[]⟩) (u1 := .int .i64 a) (u2 := .int .i64 e))
  have hG := grb_trans (grb_trans (grb_of q HW1.out) h4) (grb_of q hb5)
  have HG := Lib.hid (grb_new (grb_new (grb_new hG ⟨w.heap.size, 0, none⟩ (Nat.le_refl _) (.string ⟨#[]⟩)) ⟨w.heap.size, 1, none⟩ (Nat.le_refl _) (.int .i64 a)) ⟨w.heap.size, 2, none⟩ (Nat.le_refl _) (.int .i64 e))
  have HK := Lib.hid ((((h3.keep hb5 h3.lt).away (p := ⟨w.heap.size, 0, none⟩) hqp (.string ⟨#[]⟩)).away (p := ⟨w.heap.size, 1, none⟩) hqp (.int .i64 a)).away (p := ⟨w.heap.size, 2, none⟩) hqp (.int .i64 e))
  clear h3 h4 hG hb5 HL2 HR1 HW1 hqp
  have hp := HR4.out
  unfold put3 at hp
  obtain ⟨e0, e1, e2, _⟩ := hp
  go_wp2
  refine leaves_cons (f := 24) (args := #[.pointer (some ⟨w.heap.size, 0, none⟩)]) (by simp) (by simp [go_sem]) ?_
  refine (line_fault w.heap.size a e [] w3 HR3.out).mono ?_
  rintro x u' w'' ⟨rfl, rfl, rfl⟩
  exact ⟨.agg #[.string ⟨#[]⟩, .int .i64 a, .int .i64 e], by simp [results, Tryz.results11, go_sem, e0, e1, e2], rfl, HK.out, HG.out⟩
end Go.Proofs.YtibjogbalmbeeaaGreatDoor

namespace Go.Proofs.YtibjogbalmbeeaaGreatDoor
open Go.RowKit

theorem SpT.some {T : List UInt8} {b : Nat} (h : SpT b T) : T ≠ [] := by
  obtain ⟨_, ⟨_, rfl⟩ | ⟨_, V, rfl, hV⟩⟩ := h
  · decide
  · have hv : V ≠ [] := by
      rcases hV with ⟨_, rfl⟩ | ⟨dec, ⟨_, _, hne⟩, _⟩
      · decide
      · exact hne
    intro e
    exact hv (List.append_eq_nil_iff.1 e).2

set_option maxRecDepth 100000 in
theorem lawis_walk (R : ByteArray) (W : World) : Calls Tryz.prog 12 #[.agg #[.string R, .int .i64 0, .int .i64 0], .string R] W fun e w' => e = .returned (.bool true) ∧ Below W.heap.size W w' := by
  have hb := below_alloc' W (.cells #[.string R, .int .i64 0, .int .i64 0] 31)
  go_enter Tryz.func12, Tryz.ntmps12
  go_wp2
  exact bodyPost_ret (v := .bool true) (by simp [results, Tryz.results12, go_sem]) rfl ⟨rfl, hb⟩

/-- A desk that the law has made. -/
structure Dk (w W : World) (q : Nat) (m : Value) (hx : Bool) : Prop where
  bl : Below w.heap.size w W
  dk : DkB W q m hx false
  ge : w.heap.size ≤ q
theorem Dk.line {w W W' : World} {q m hx hx'} (h : Dk w W q m hx) (hk : DkB W' q m hx' false) (g : W.grownBy W' (some q)) : Dk w W' q m hx' :=
  ⟨below_grownV h.bl h.bl.size g (fun k hk => by injection hk with hk; have := h.ge; omega), hk, h.ge⟩
theorem Dk.below {w W W' : World} {q m hx} (h : Dk w W q m hx) (hb : Below W.heap.size W W') : Dk w W' q m hx := ⟨below_chain h.bl hb, h.dk.keep hb h.dk.lt, h.ge⟩
theorem Dk.alloc {w W : World} {q m hx} (h : Dk w W q m hx) (o : Obj) : Dk w (W.alloc o) q m hx := h.below (below_alloc' W o)
end Go.Proofs.YtibjogbalmbeeaaGreatDoor

namespace Go.Proofs.YtibjogbalmbeeaaGreatDoor
open Go.RowKit

/-- A reply that is kept. -/
def Rp (W : World) (q g : Nat) (R : ByteArray) : Prop := Box3 W g (.string R) (.int .i64 0) (.int .i64 0) ∧ g ≠ q
theorem Rp.grb {W W' : World} {q g : Nat} {R : ByteArray} (h : Rp W q g R) (k : W.grownBy W' (some q)) : Rp W' q g R := ⟨h.1.grb k h.2, h.2⟩
theorem Rp.below {W W' : World} {q g : Nat} {R : ByteArray} (h : Rp W q g R) (k : Below W.heap.size W W') : Rp W' q g R := ⟨h.1.below k, h.2⟩
theorem Rp.alloc {W : World} {q g : Nat} {R : ByteArray} (h : Rp W q g R) (o : Obj) : Rp (W.alloc o) q g R := h.below (below_alloc' W o)
theorem Rp.new {w W : World} {q : Nat} {m hx} (h : Dk w W q m hx) (R : ByteArray) : Rp (W.alloc (.cells #[.string R, .int .i64 0, .int .i64 0] 31)) q W.heap.size R :=
  ⟨⟨by simp, by simp, by simp, by simp, by simp, by simp, by simp⟩, by have := h.dk.lt; omega⟩

end Go.Proofs.YtibjogbalmbeeaaGreatDoor
