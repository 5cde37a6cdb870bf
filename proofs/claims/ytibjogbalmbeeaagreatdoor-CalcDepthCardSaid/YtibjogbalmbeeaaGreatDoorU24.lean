/- Walks of calc: value, print, named, command (printed by gen_cr.py). · Walks of calc: New, trig.New; the deferred call of Line where nothing has gone wrong. · Walks of calc: a desk's line that is an expression; a command. · Walks of calc: a desk's line that is a constant. · Walks of calc: a desk's line that is a command. · The walk of calc's Line, given what line does. · Walks of calc: faults through parentheses, signs, terms and expressions. · Walks of calc: a term of one factor, an expression of one term. · Walks of soft: signBit. -/
import Derived.Test.YtibjogbalmbeeaaGreatDoorU23
import Derived.Deep.DeepCutAuto
import Derived.Test.YtibjogbalmbeeaaGreatDoorU09

namespace Go.Proofs.YtibjogbalmbeeaaGreatDoor
open Go.RowKit

/-- Block q is a desk. -/
def DkB (w : World) (q : Nat) (m : Value) (hx sl : Bool) : Prop := w.heap[q]? = some (.cells #[m, .bool hx, .bool sl] 55 (0, 0))
theorem DkB.cell {w : World} {q m hx sl} (H : DkB w q m hx sl) (j : Nat) : w.cell? ⟨q, j, none⟩ = (#[m, .bool hx, .bool sl] : Array Value)[j]? := cell_of_row w q j _ _ (0, 0) H
theorem DkB.frozen {w : World} {q m hx sl} (H : DkB w q m hx sl) (j : Nat) : w.frozen? ⟨q, j, none⟩ = false := by
  unfold DkB at H; simp [World.frozen?, H]
theorem DkB.lt {w : World} {q m hx sl} (H : DkB w q m hx sl) : q < w.heap.size := (Array.getElem?_eq_some_iff.1 H).1
theorem DkB.keep {w w1 : World} {q m hx sl} {B : Nat} (H : DkB w q m hx sl) (hb : Below B w w1) (hq : q < B) : DkB w1 q m hx sl := (hb.block q hq).trans H
theorem St.hard {w W : World} {g s n D L d h l} (H : St w W g s n D L d h l) : W.cell? ⟨g, 9, none⟩ = some (.int .i64 h) := by
  obtain ⟨_, v, hr, _⟩ := H; exact hr.cell 9

set_option maxRecDepth 100000 in
set_option maxHeartbeats 1000000 in
theorem St.value {w W : World} {g s n n2 D L d l} {x : Nat} (H : St w W g s n D L d (-1) l) (hk : knd s n2 = 0) (hl : l.length < 100000)
    (hE : ∀ U, St w U g s n D L d (-1) l → Calls Tryz.prog 104 #[.pointer (some ⟨g, 0, none⟩)] U fun e w' => e = .returned (.tuple #[]) ∧ St w w' g s n2 D L d (-1) (l ++ [x])) :
    Calls Tryz.prog 58 #[.pointer (some ⟨g, 0, none⟩)] W fun e w' => e = .returned (.int .u64 (x : Int)) ∧ St w w' g s n2 D L d (-1) l := by
  have HE := Lib.hid (hE W H)
  have HP := Lib.hid (fun U (hU : St w U g s n2 D L d (-1) (l ++ [x])) => hU.pop hl)
  have HK := Lib.hid hk
  obtain ⟨y, hy⟩ : ∃ y : Int, (x : Int) = y := ⟨_, rfl⟩
  rw [hy] at HP ⊢
  clear H hk hl hE hy
  go_enter Tryz.func58, Tryz.ntmps58
  go_wp2_with fail
  refine HE.out.mono ?_
  rintro e w1 ⟨rfl, h1⟩
  have c2 : w1.cell? ⟨g, 2, none⟩ = some (.int .i64 0) := by have := h1.piece.1; rw [HK.out] at this; exact this
  have c9 := h1.hard
  have HP1 := Lib.hid (HP.out w1 h1)
  clear h1
  go_wp2_with fail
  refine HP1.out.mono ?_
  rintro e w2 ⟨rfl, h2⟩
  have H2 := Lib.hid h2
  clear h2
  go_wp2_with fail
  exact bodyPost_ret (v := .int .u64 y) (by simp [results, Tryz.results58, go_sem]) rfl ⟨rfl, H2.out⟩

set_option maxRecDepth 100000 in
set_option maxHeartbeats 1000000 in
theorem print_walk {w : World} {q m hx sl} (H : DkB w q m hx sl) (x : Nat) (T : ByteArray)
    (hP : Calls Tryz.prog (if hx then 9 else 8) #[.int .i64 64, .int .u64 (x : Int)] w fun e w' => e = .returned (.tuple #[.string T, .int .i64 0]) ∧ Below w.heap.size w w') :
    Calls Tryz.prog 59 #[.pointer (some ⟨q, 0, none⟩), .int .u64 (x : Int)] w fun e w' => e = .returned (.string T) ∧ Below w.heap.size w w' := by
  have HP := Lib.hid hP
  cases hx
  · have c1 : w.cell? ⟨q, 1, none⟩ = some (.bool false) := H.cell 1
    clear H hP
    go_enter Tryz.func59, Tryz.ntmps59
    go_wp2_with fail
    refine HP.out.mono ?_
    rintro e w2 ⟨rfl, h2⟩
    have H2 := Lib.hid h2
    clear h2
    go_wp2_with fail
    exact bodyPost_ret (v := .string T) (by simp [results, Tryz.results59, go_sem]) rfl ⟨rfl, H2.out⟩
  · have c1 : w.cell? ⟨q, 1, none⟩ = some (.bool true) := H.cell 1
    clear H hP
    go_enter Tryz.func59, Tryz.ntmps59
    go_wp2_with fail
    refine HP.out.mono ?_
    rintro e w2 ⟨rfl, h2⟩
    have H2 := Lib.hid h2
    clear h2
    go_wp2_with fail
    exact bodyPost_ret (v := .string T) (by simp [results, Tryz.results59, go_sem]) rfl ⟨rfl, H2.out⟩

set_option maxRecDepth 100000 in
set_option maxHeartbeats 1000000 in
theorem named_no (k : Nat) (t : ByteArray) (a : Nat) (hk : k ≠ 1) (W : World) :
    Calls Tryz.prog 55 #[.agg #[.int .i64 (k : Int), .string t, .int .i64 (a : Int)]] W fun e w' => e = .returned (.bool false) ∧ Below W.heap.size W w' := by
  have hb := below_alloc' W (.cells #[.int .i64 (k : Int), .string t, .int .i64 (a : Int)] 66)
  have g1 : ((k : Int) != 1) = true := by rw [bne_iff_ne]; omega
  clear hk
  go_enter Tryz.func55, Tryz.ntmps55
  go_wp2_with fail
  exact bodyPost_ret (v := .bool false) (by simp [results, Tryz.results55, go_sem]) rfl ⟨rfl, hb⟩
end Go.Proofs.YtibjogbalmbeeaaGreatDoor

namespace Go.Proofs.YtibjogbalmbeeaaGreatDoor
open Go.RowKit

set_option maxRecDepth 100000 in
theorem new_walk (w : World) : Calls Tryz.prog 10 #[] w fun e w' => e = .returned (.pointer (some ⟨w.heap.size, 0, none⟩)) ∧ (∃ m, DkB w' w.heap.size m false false) ∧ Below w.heap.size w w' := by
  go_enter Tryz.func10, Tryz.ntmps10
  go_wp2_with fail
  refine bodyPost_ret (v := .pointer (some ⟨w.heap.size, 0, none⟩)) (by simp [results, Tryz.results10, go_sem]) rfl ⟨rfl, ⟨_, heap_alloc_new w _⟩, below_alloc' w _⟩
set_option maxRecDepth 100000 in
theorem trignew_walk (w : World) : Calls Tryz.prog 25 #[.int .i64 1] w fun e w' => ∃ p, e = .returned (.tuple #[.pointer (some p), .int .i64 0]) ∧ Below w.heap.size w w' := by
  go_enter Tryz.func25, Tryz.ntmps25
  go_wp2_with fail
  refine bodyPost_ret (v := .tuple #[.pointer (some ⟨w.heap.size, 0, none⟩), .int .i64 0]) (by simp [results, Tryz.results25, go_sem]) rfl ⟨_, rfl, below_alloc' w _⟩
set_option maxRecDepth 100000 in
set_option maxHeartbeats 4000000 in
theorem line_idle (p : Addr) (w : World) :
    CallsD Tryz.prog 24 #[.pointer (some p)] .returning w fun e u' w' => e = .returned (.tuple #[]) ∧ u' = .returning ∧ w' = w := by
  refine callsD_of_wpS Tryz.func24 rfl fun c₀ cs hu => ?_
  apply wpS_seq
  apply wpS_region
  simp [wpOpsS, go_sem, recoverD, hu, Tryz.ntmps24, Exit.thenS]
  refine wpS_of_wp ?_
  have hfr : (#[Value.pointer (some p)] ++ ((Array.replicate 19 undef).setIfInBounds 3 Value.nilIface).setIfInBounds 0 Value.nilIface : Array Value) = #[.pointer (some p), .nilIface, undef, undef, .nilIface, undef, undef, undef, undef, undef, undef, undef, undef, undef, undef, undef, undef, undef, undef, undef] := rfl
  rw [hfr]
  clear hfr
  go_wp2
  cases c₀
  simp_all [bodyPostS, results, Tryz.results24]
end Go.Proofs.YtibjogbalmbeeaaGreatDoor

namespace Go.Proofs.YtibjogbalmbeeaaGreatDoor
open Go.RowKit

theorem St.lt {w W : World} {g s n D L d h l} (H : St w W g s n D L d h l) : g < W.heap.size := by
  obtain ⟨_, v, hr, _⟩ := H; exact hr.lt
set_option maxRecDepth 100000 in
set_option maxHeartbeats 2000000 in
theorem desk_line_n {w W : World} {g q : Nat} {s : ByteArray} {L m : Value} {hx sl : Bool} {x : Nat} {T' : ByteArray} (H : St w W g s 0 (.pointer (some ⟨q, 0, none⟩)) L 0 (-1) [])
    (hD : DkB W q m hx sl) (hq : q < g) (hs : s.size ≤ 100000) (hk0 : knd s 0 ≠ 0) (hk1 : knd s 0 ≠ 1)
    (hV : ∀ U, St w U g s 0 (.pointer (some ⟨q, 0, none⟩)) L 0 (-1) [] → Calls Tryz.prog 58 #[.pointer (some ⟨g, 0, none⟩)] U fun e w' => e = .returned (.int .u64 (x : Int)) ∧ St w w' g s s.size (.pointer (some ⟨q, 0, none⟩)) L 0 (-1) [])
    (hP : ∀ U, Below g w U → DkB U q m hx sl → Calls Tryz.prog 59 #[.pointer (some ⟨q, 0, none⟩), .int .u64 (x : Int)] U fun e w' => e = .returned (.string T') ∧ Below U.heap.size U w') :
    Calls Tryz.prog 27 #[.pointer (some ⟨q, 0, none⟩), .pointer (some ⟨g, 0, none⟩)] W fun e w' => e = .returned (.string T') ∧ Below g w w' ∧ DkB w' q m hx sl := by
  have hDw : ∀ U, St w U g s 0 (.pointer (some ⟨q, 0, none⟩)) L 0 (-1) [] → Below g W U → DkB U q m hx sl := fun U _ hb => hD.keep hb hq
  obtain ⟨c2, c3, c4⟩ := H.piece
  have hcut := fun U => ccut_walk s (nxt s 0) (nxt_le (Nat.zero_le _)) hs U
  have hnm := fun U => named_no (knd s 0) (txt s 0) (plc s 0) hk1 U
  have g1 : ((knd s 0 : Int) == 0) = false := by rw [beq_eq_false_iff_ne]; omega
  have g2 : ((knd s 0 : Int) == 1) = false := by rw [beq_eq_false_iff_ne]; omega
  obtain ⟨hb0, v, hr, ho⟩ := id H
  have c0 : W.cell? ⟨g, 0, none⟩ = some (.string s) := hr.cell 0
  have c1 : W.cell? ⟨g, 1, none⟩ = some (.int .i64 (nxt s 0 : Int)) := hr.cell 1
  have hlt := hr.lt
  have HD0 := Lib.hid (show DkB w q m hx sl from (hb0.block q hq).symm.trans hD)
  have HST := Lib.hid H
  have HV := Lib.hid hV
  have HP := Lib.hid hP
  have HK := Lib.hid hD
  have HG := Lib.hid hlt
  have HQ := Lib.hid hq
  generalize knd s 0 = k at *
  generalize txt s 0 = t at *
  generalize plc s 0 = a at *
  generalize nxt s 0 = n at *
  generalize (cutK s (ovr pBln s n)).2 = n' at *
  generalize (cutK s (ovr pBln s n)).1 = k' at *
  generalize cutT s (ovr pBln s n) = t' at *
  generalize ovr pBln s n = a' at *
  have HC := Lib.hid hcut
  have HN := Lib.hid hnm
  have hA := below_alloc' W (.cells #[.int .i64 (k : Int), .string t, .int .i64 (a : Int)] 66)
  have HB0 := Lib.hid (show Box3 (W.alloc (.cells #[.int .i64 (k : Int), .string t, .int .i64 (a : Int)] 66)) W.heap.size (.int .i64 (k : Int)) (.string t) (.int .i64 (a : Int)) from ⟨by simp, by simp, by simp, by simp, by simp, by simp, by simp⟩)
  have y0 := cell_kept hA c0
  have y1 := cell_kept hA c1
  have HA := Lib.hid hA
  clear H hD hq hs hk0 hk1 hV hP hDw hcut hnm hb0 hr ho hlt hA
  go_enter Tryz.func27, Tryz.ntmps27
  go_upto_region 13 with fail
  go_cut [6, 7] (fun s6 s7 wx => (∃ p, s6 = .pointer (some p)) ∧ s7 = .int .i64 (n' : Int) ∧ Hid (Below (W.alloc (.cells #[.int .i64 (k : Int), .string t, .int .i64 (a : Int)] 66)).heap.size (W.alloc (.cells #[.int .i64 (k : Int), .string t, .int .i64 (a : Int)] 66)) wx))
  case first =>
    have HZ := Lib.hid (show Box3 ((W.alloc (.cells #[.int .i64 (k : Int), .string t, .int .i64 (a : Int)] 66)).alloc (.cells #[.int .i64 0, .string ⟨#[]⟩, .int .i64 0] 66)).drew (W.heap.size + 1) (.int .i64 0) (.string ⟨#[]⟩) (.int .i64 0) from (show Box3 ((W.alloc (.cells #[.int .i64 (k : Int), .string t, .int .i64 (a : Int)] 66)).alloc (.cells #[.int .i64 0, .string ⟨#[]⟩, .int .i64 0] 66)) (W.heap.size + 1) (.int .i64 0) (.string ⟨#[]⟩) (.int .i64 0) from ⟨by simp, by simp, by simp, by simp, by simp, by simp, by simp⟩))
    have v0 := cell_kept (below_alloc' _ (.cells #[.int .i64 0, .string ⟨#[]⟩, .int .i64 0] 66)) y0
    have v1 := cell_kept (below_alloc' _ (.cells #[.int .i64 0, .string ⟨#[]⟩, .int .i64 0] 66)) y1
    go_region_with ((go_at_call 50; first
      | (refine (HC.out (W.alloc (.cells #[.int .i64 (k : Int), .string t, .int .i64 (a : Int)] 66)).drew).mono ?_; rintro e w1 ⟨rfl, hb⟩; have HB := Lib.hid hb; clear hb)
      | (refine (HC.out ((W.alloc (.cells #[.int .i64 (k : Int), .string t, .int .i64 (a : Int)] 66)).alloc (.cells #[.int .i64 0, .string ⟨#[]⟩, .int .i64 0] 66)).drew).mono ?_; rintro e w1 ⟨rfl, hb⟩; obtain ⟨x0, x1, x2, z0, z1, z2, _⟩ := HZ.out.below hb; have HB := Lib.hid hb; clear hb)))
    all_goals go_wp2_with fail
    all_goals go_meet
    all_goals first
      | exact ⟨⟨_, rfl⟩, rfl, Lib.hid (below_chain ((below_dn (Below.refl _ _) 1).trans HB.out) (below_alloc' _ _))⟩
      | exact ⟨⟨_, rfl⟩, rfl, Lib.hid ((((below_chain (below_dn (below_alloc' _ _) 1) HB.out).setCell (p := ⟨W.heap.size + 1, 0, none⟩) (by simp) _).setCell (p := ⟨W.heap.size + 1, 1, none⟩) (by simp) _).setCell (p := ⟨W.heap.size + 1, 2, none⟩) (by simp) _)⟩
  case rest =>
    obtain ⟨⟨p6, rfl⟩, rfl, HX⟩ := hcut
    obtain ⟨r0, r1, r2, _⟩ := HB0.out.below HX.out
    have HS := Lib.hid ((HST.out.below HA.out).below HX.out)
    have HK2 := Lib.hid ((HK.out.keep HA.out HK.out.lt).keep HX.out (HK.out.keep HA.out HK.out.lt).lt)
    clear HC HB0 HST HA HX HK c0 c1 y0 y1 c2 c3 c4
    go_wp2_with fail
    refine (HN.out _).mono ?_
    rintro e w2 ⟨rfl, hb2⟩
    have HS2 := Lib.hid (HS.out.below hb2)
    have HK3 := Lib.hid (HK2.out.keep hb2 HK2.out.lt)
    have HV2 := Lib.hid (HV.out w2 HS2.out)
    clear hb2 HS HK2 HN r0 r1 r2
    go_wp2_with fail
    refine HV2.out.mono ?_
    rintro e w3 ⟨rfl, h3⟩
    have HK4 := Lib.hid (HD0.out.keep h3.1 HQ.out)
    have HP3 := Lib.hid (HP.out w3 h3.1 HK4.out)
    have HS3 := Lib.hid h3
    clear h3 HV2 HK3
    go_wp2_with fail
    refine HP3.out.mono ?_
    rintro e w4 ⟨rfl, h4⟩
    have HW4 := Lib.hid (HS3.out.1.trans (h4.mono (Nat.le_of_lt HS3.out.lt)))
    have HK5 := Lib.hid (HD0.out.keep HW4.out HQ.out)
    clear h4
    go_wp2_with fail
    exact bodyPost_ret (v := .string T') (by simp [results, Tryz.results27, go_sem]) rfl ⟨rfl, HW4.out, HK5.out⟩
end Go.Proofs.YtibjogbalmbeeaaGreatDoor

namespace Go.Proofs.YtibjogbalmbeeaaGreatDoor
open Go.RowKit

end Go.Proofs.YtibjogbalmbeeaaGreatDoor

namespace Go.Proofs.YtibjogbalmbeeaaGreatDoor
open Go.RowKit

theorem Box3.grb {W W' : World} {g q : Nat} {v0 v1 v2 : Value} (h : Box3 W g v0 v1 v2) (hg : W.grownBy W' (some q)) (hne : g ≠ q) : Box3 W' g v0 v1 v2 := by
  obtain ⟨h0, h1, h2, f0, f1, f2, hl⟩ := h
  have e := hg.block g hl (fun e => hne (by injection e with e))
  refine ⟨?_, ?_, ?_, (World.frozen?_of_block (a := ⟨g, 0, none⟩) e).trans f0, (World.frozen?_of_block (a := ⟨g, 1, none⟩) e).trans f1, (World.frozen?_of_block (a := ⟨g, 2, none⟩) e).trans f2, Nat.lt_of_lt_of_le hl hg.size⟩
  · exact (World.cell?_of_block (a := ⟨g, 0, none⟩) e).trans h0
  · exact (World.cell?_of_block (a := ⟨g, 1, none⟩) e).trans h1
  · exact (World.cell?_of_block (a := ⟨g, 2, none⟩) e).trans h2
end Go.Proofs.YtibjogbalmbeeaaGreatDoor

namespace Go.Proofs.YtibjogbalmbeeaaGreatDoor
open Go.RowKit

theorem grb_new {w w1 : World} {q : Nat} (h : w.grownBy w1 (some q)) (p : Addr) (hp : w.heap.size ≤ p.block) (u : Value) : w.grownBy (w1.setCell p u) (some q) :=
  ⟨h.os, h.tape, h.output, by have := h.size; simpa using this, fun k hk he => (Below.heap_setCell w1 p u k (by omega)).trans (h.block k hk he)⟩
theorem DkB.away {w : World} {q m hx sl} (H : DkB w q m hx sl) {p : Addr} (hp : p.block ≠ q) (u : Value) : DkB (w.setCell p u) q m hx sl := (Below.heap_setCell w p u q (fun e => hp e.symm)).trans H

end Go.Proofs.YtibjogbalmbeeaaGreatDoor

namespace Go.Proofs.YtibjogbalmbeeaaGreatDoor
open Go.RowKit

theorem St.deeper_no {w W : World} {g s n D L d h l} (H : St w W g s n D L d h l) (hd : d = 50) :
    Calls Tryz.prog 179 #[.pointer (some ⟨g, 0, none⟩)] W fun e w' => e = .panicked [cfault (plc s n : Int) 11] ∧ Below g w w' := by
  obtain ⟨hb, v, hr, ho⟩ := H
  refine (Go.Proofs.YtibjogbalmbeeaaGreatDoor.deeper_no hr hd).mono ?_
  rintro e w' ⟨rfl, rfl⟩
  exact ⟨rfl, hb⟩
theorem no_minus {k : Nat} {t : ByteArray} (hm : isM k t ⟨#[40]⟩ = true) : isM k t ⟨#[45]⟩ = false := by
  unfold isM at hm ⊢
  rw [Bool.and_eq_true, decide_eq_true_eq, decide_eq_true_eq] at hm
  rw [hm.2, Bool.and_eq_false_iff]
  exact .inr (by decide)

set_option maxRecDepth 100000 in
set_option maxHeartbeats 2000000 in
theorem St.paren_no {w W : World} {g s n D L d h l} {ch : List PanicEntry} (H : St w W g s n D L d h l) (hm : isM (knd s n) (txt s n) ⟨#[40]⟩ = true) (hn : n ≤ s.size) (hs : s.size ≤ 100000) (hd : d < 50)
    (hE : ∀ U, St w U g s (nxt s n) D L (d + 1) h l → Calls Tryz.prog 104 #[.pointer (some ⟨g, 0, none⟩)] U fun e w' => e = .panicked ch ∧ Below g w w') :
    Calls Tryz.prog 164 #[.pointer (some ⟨g, 0, none⟩)] W fun e w' => e = .panicked ch ∧ Below g w w' := by
  have hm0 := no_minus hm
  have HH := Lib.hid H
  have HI1 := Lib.hid (fun U => is_walk (knd s n) (txt s n) (plc s n) ⟨#[45]⟩ U)
  have HI2 := Lib.hid (fun U => is_walk (knd s n) (txt s n) (plc s n) ⟨#[40]⟩ U)
  rw [hm0] at HI1
  rw [hm] at HI2
  have HD := Lib.hid (fun U (hU : St w U g s n D L d h l) => hU.deeper hd)
  have HS := Lib.hid (fun U (hU : St w U g s n D L (d + 1) h l) => hU.step hn hs)
  have HE := Lib.hid hE
  obtain ⟨c2, c3, c4⟩ := H.piece
  clear H hm0 hm hn hs hd hE
  go_enter Tryz.func164, Tryz.ntmps164
  go_wp2_with fail
  refine (HI1.out _).mono ?_
  rintro e w1 ⟨rfl, hb⟩
  have HB := Lib.hid (HH.out.below hb)
  obtain ⟨d2, d3, d4⟩ := HB.out.piece
  clear hb
  go_wp2_with fail
  refine (HI2.out _).mono ?_
  rintro e w2 ⟨rfl, hb⟩
  have HD2 := Lib.hid (HD.out w2 (HB.out.below hb))
  clear hb
  go_wp2_with fail
  refine HD2.out.mono ?_
  rintro e w3 ⟨rfl, h3⟩
  have HS3 := Lib.hid (HS.out w3 h3)
  clear h3
  go_wp2_with fail
  refine HS3.out.mono ?_
  rintro e w4 ⟨rfl, h4⟩
  have HE4 := Lib.hid (HE.out w4 h4)
  clear h4
  go_wp2_with fail
  refine HE4.out.mono ?_
  rintro e w5 ⟨rfl, h5⟩
  have H5 := Lib.hid h5
  clear h5
  go_wp2_with fail
  exact ⟨rfl, rfl, H5.out⟩

set_option maxRecDepth 100000 in
set_option maxHeartbeats 2000000 in
theorem St.paren_deep {w W : World} {g s n D L d h l} (H : St w W g s n D L d h l) (hm : isM (knd s n) (txt s n) ⟨#[40]⟩ = true) (hd : d = 50) :
    Calls Tryz.prog 164 #[.pointer (some ⟨g, 0, none⟩)] W fun e w' => e = .panicked [cfault (plc s n : Int) 11] ∧ Below g w w' := by
  have hm0 := no_minus hm
  have HH := Lib.hid H
  have HI1 := Lib.hid (fun U => is_walk (knd s n) (txt s n) (plc s n) ⟨#[45]⟩ U)
  have HI2 := Lib.hid (fun U => is_walk (knd s n) (txt s n) (plc s n) ⟨#[40]⟩ U)
  rw [hm0] at HI1
  rw [hm] at HI2
  have HD := Lib.hid (fun U (hU : St w U g s n D L d h l) => hU.deeper_no hd)
  obtain ⟨c2, c3, c4⟩ := H.piece
  clear H hm0 hm hd
  go_enter Tryz.func164, Tryz.ntmps164
  go_wp2_with fail
  refine (HI1.out _).mono ?_
  rintro e w1 ⟨rfl, hb⟩
  have HB := Lib.hid (HH.out.below hb)
  obtain ⟨d2, d3, d4⟩ := HB.out.piece
  clear hb
  go_wp2_with fail
  refine (HI2.out _).mono ?_
  rintro e w2 ⟨rfl, hb⟩
  have HD2 := Lib.hid (HD.out w2 (HB.out.below hb))
  clear hb
  go_wp2_with fail
  refine HD2.out.mono ?_
  rintro e w3 ⟨rfl, h3⟩
  have H3 := Lib.hid h3
  clear h3
  go_wp2_with fail
  exact ⟨rfl, rfl, H3.out⟩

set_option maxRecDepth 100000 in
set_option maxHeartbeats 2000000 in
theorem St.minus_no {w W : World} {g s n D L d h l} {ch : List PanicEntry} (H : St w W g s n D L d h l) (hm : isM (knd s n) (txt s n) ⟨#[45]⟩ = true) (hn : n ≤ s.size) (hs : s.size ≤ 100000) (hd : d < 50)
    (hE : ∀ U, St w U g s (nxt s n) D L (d + 1) h l → Calls Tryz.prog 164 #[.pointer (some ⟨g, 0, none⟩)] U fun e w' => e = .panicked ch ∧ Below g w w') :
    Calls Tryz.prog 164 #[.pointer (some ⟨g, 0, none⟩)] W fun e w' => e = .panicked ch ∧ Below g w w' := by
  have HH := Lib.hid H
  have HI1 := Lib.hid (fun U => is_walk (knd s n) (txt s n) (plc s n) ⟨#[45]⟩ U)
  rw [hm] at HI1
  have HD := Lib.hid (fun U (hU : St w U g s n D L d h l) => hU.deeper hd)
  have HS := Lib.hid (fun U (hU : St w U g s n D L (d + 1) h l) => hU.step hn hs)
  have HE := Lib.hid hE
  obtain ⟨c2, c3, c4⟩ := H.piece
  clear H hm hn hs hd hE
  go_enter Tryz.func164, Tryz.ntmps164
  go_wp2_with fail
  refine (HI1.out _).mono ?_
  rintro e w2 ⟨rfl, hb⟩
  have HD2 := Lib.hid (HD.out w2 (HH.out.below hb))
  clear hb
  go_wp2_with fail
  refine HD2.out.mono ?_
  rintro e w3 ⟨rfl, h3⟩
  have HS3 := Lib.hid (HS.out w3 h3)
  clear h3
  go_wp2_with fail
  refine HS3.out.mono ?_
  rintro e w4 ⟨rfl, h4⟩
  have HE4 := Lib.hid (HE.out w4 h4)
  clear h4
  go_wp2_with fail
  refine HE4.out.mono ?_
  rintro e w5 ⟨rfl, h5⟩
  have H5 := Lib.hid h5
  clear h5
  go_wp2_with fail
  exact ⟨rfl, rfl, H5.out⟩

set_option maxRecDepth 100000 in
set_option maxHeartbeats 2000000 in
theorem St.minus_deep {w W : World} {g s n D L d h l} (H : St w W g s n D L d h l) (hm : isM (knd s n) (txt s n) ⟨#[45]⟩ = true) (hd : d = 50) :
    Calls Tryz.prog 164 #[.pointer (some ⟨g, 0, none⟩)] W fun e w' => e = .panicked [cfault (plc s n : Int) 11] ∧ Below g w w' := by
  have HH := Lib.hid H
  have HI1 := Lib.hid (fun U => is_walk (knd s n) (txt s n) (plc s n) ⟨#[45]⟩ U)
  rw [hm] at HI1
  have HD := Lib.hid (fun U (hU : St w U g s n D L d h l) => hU.deeper_no hd)
  obtain ⟨c2, c3, c4⟩ := H.piece
  clear H hm hd
  go_enter Tryz.func164, Tryz.ntmps164
  go_wp2_with fail
  refine (HI1.out _).mono ?_
  rintro e w2 ⟨rfl, hb⟩
  have HD2 := Lib.hid (HD.out w2 (HH.out.below hb))
  clear hb
  go_wp2_with fail
  refine HD2.out.mono ?_
  rintro e w3 ⟨rfl, h3⟩
  have H3 := Lib.hid h3
  clear h3
  go_wp2_with fail
  exact ⟨rfl, rfl, H3.out⟩

set_option maxRecDepth 100000 in
theorem term_no {W : World} {g : Nat} {ch : List PanicEntry} {Q : World → Prop}
    (hE : Calls Tryz.prog 164 #[.pointer (some ⟨g, 0, none⟩)] W fun e w' => e = .panicked ch ∧ Q w') :
    Calls Tryz.prog 141 #[.pointer (some ⟨g, 0, none⟩)] W fun e w' => e = .panicked ch ∧ Q w' := by
  have HE := Lib.hid hE
  clear hE
  go_enter Tryz.func141, Tryz.ntmps141
  go_wp2_with fail
  refine HE.out.mono ?_
  rintro e w1 ⟨rfl, h1⟩
  have H1 := Lib.hid h1
  clear h1
  go_wp2_with fail
  exact ⟨rfl, rfl, H1.out⟩
set_option maxRecDepth 100000 in
theorem expression_no {W : World} {g : Nat} {ch : List PanicEntry} {Q : World → Prop}
    (hE : Calls Tryz.prog 141 #[.pointer (some ⟨g, 0, none⟩)] W fun e w' => e = .panicked ch ∧ Q w') :
    Calls Tryz.prog 104 #[.pointer (some ⟨g, 0, none⟩)] W fun e w' => e = .panicked ch ∧ Q w' := by
  have HE := Lib.hid hE
  clear hE
  go_enter Tryz.func104, Tryz.ntmps104
  go_wp2_with fail
  refine HE.out.mono ?_
  rintro e w1 ⟨rfl, h1⟩
  have H1 := Lib.hid h1
  clear h1
  go_wp2_with fail
  exact ⟨rfl, rfl, H1.out⟩
set_option maxRecDepth 100000 in
theorem value_no {W : World} {g : Nat} {ch : List PanicEntry} {Q : World → Prop}
    (hE : Calls Tryz.prog 104 #[.pointer (some ⟨g, 0, none⟩)] W fun e w' => e = .panicked ch ∧ Q w') :
    Calls Tryz.prog 58 #[.pointer (some ⟨g, 0, none⟩)] W fun e w' => e = .panicked ch ∧ Q w' := by
  have HE := Lib.hid hE
  clear hE
  go_enter Tryz.func58, Tryz.ntmps58
  go_wp2_with fail
  refine HE.out.mono ?_
  rintro e w1 ⟨rfl, h1⟩
  have H1 := Lib.hid h1
  clear h1
  go_wp2_with fail
  exact ⟨rfl, rfl, H1.out⟩
end Go.Proofs.YtibjogbalmbeeaaGreatDoor

namespace Go.Proofs.YtibjogbalmbeeaaGreatDoor
open Go.RowKit

set_option maxRecDepth 100000 in
set_option maxHeartbeats 2000000 in
theorem St.term_one {w W : World} {g s n n2 D L d h l l2} (H : St w W g s n D L d h l) (hm1 : isM (knd s n2) (txt s n2) ⟨#[42]⟩ = false) (hm2 : isM (knd s n2) (txt s n2) ⟨#[47]⟩ = false)
    (hE : ∀ U, St w U g s n D L d h l → Calls Tryz.prog 164 #[.pointer (some ⟨g, 0, none⟩)] U fun e w' => e = .returned (.tuple #[]) ∧ St w w' g s n2 D L d h l2) :
    Calls Tryz.prog 141 #[.pointer (some ⟨g, 0, none⟩)] W fun e w' => e = .returned (.tuple #[]) ∧ St w w' g s n2 D L d h l2 := by
  have HE := Lib.hid (hE W H)
  have HI1 := Lib.hid (fun U => is_walk (knd s n2) (txt s n2) (plc s n2) ⟨#[42]⟩ U)
  have HI2 := Lib.hid (fun U => is_walk (knd s n2) (txt s n2) (plc s n2) ⟨#[47]⟩ U)
  rw [hm1] at HI1
  rw [hm2] at HI2
  clear H hE hm1 hm2
  go_enter Tryz.func141, Tryz.ntmps141
  go_wp2_with fail
  refine HE.out.mono ?_
  rintro e w1 ⟨rfl, h1⟩
  obtain ⟨c2, c3, c4⟩ := h1.piece
  have H1 := Lib.hid h1
  clear h1
  go_wp2_with fail
  refine wp_loop_once ?_
  go_wp2_with fail
  refine (HI1.out _).mono ?_
  rintro e w2 ⟨rfl, h2⟩
  have H2 := Lib.hid (H1.out.below h2)
  obtain ⟨d2, d3, d4⟩ := H2.out.piece
  clear h2
  go_wp2_with fail
  refine (HI2.out _).mono ?_
  rintro e w3 ⟨rfl, h3⟩
  have H3 := Lib.hid (H2.out.below h3)
  clear h3
  go_wp2_with fail
  exact bodyPost_end (results_none (by rfl) _ _ _) (by rfl) ⟨rfl, H3.out⟩

set_option maxRecDepth 100000 in
set_option maxHeartbeats 2000000 in
theorem St.expression_one {w W : World} {g s n n2 D L d h l l2} (H : St w W g s n D L d h l) (hm1 : isM (knd s n2) (txt s n2) ⟨#[43]⟩ = false) (hm2 : isM (knd s n2) (txt s n2) ⟨#[45]⟩ = false)
    (hE : ∀ U, St w U g s n D L d h l → Calls Tryz.prog 141 #[.pointer (some ⟨g, 0, none⟩)] U fun e w' => e = .returned (.tuple #[]) ∧ St w w' g s n2 D L d h l2) :
    Calls Tryz.prog 104 #[.pointer (some ⟨g, 0, none⟩)] W fun e w' => e = .returned (.tuple #[]) ∧ St w w' g s n2 D L d h l2 := by
  have HE := Lib.hid (hE W H)
  have HI1 := Lib.hid (fun U => is_walk (knd s n2) (txt s n2) (plc s n2) ⟨#[43]⟩ U)
  have HI2 := Lib.hid (fun U => is_walk (knd s n2) (txt s n2) (plc s n2) ⟨#[45]⟩ U)
  rw [hm1] at HI1
  rw [hm2] at HI2
  clear H hE hm1 hm2
  go_enter Tryz.func104, Tryz.ntmps104
  go_wp2_with fail
  refine HE.out.mono ?_
  rintro e w1 ⟨rfl, h1⟩
  obtain ⟨c2, c3, c4⟩ := h1.piece
  have H1 := Lib.hid h1
  clear h1
  go_wp2_with fail
  refine wp_loop_once ?_
  go_wp2_with fail
  refine (HI1.out _).mono ?_
  rintro e w2 ⟨rfl, h2⟩
  have H2 := Lib.hid (H1.out.below h2)
  obtain ⟨d2, d3, d4⟩ := H2.out.piece
  clear h2
  go_wp2_with fail
  refine (HI2.out _).mono ?_
  rintro e w3 ⟨rfl, h3⟩
  have H3 := Lib.hid (H2.out.below h3)
  clear h3
  go_wp2_with fail
  exact bodyPost_end (results_none (by rfl) _ _ _) (by rfl) ⟨rfl, H3.out⟩
end Go.Proofs.YtibjogbalmbeeaaGreatDoor

namespace Go.Proofs.YtibjogbalmbeeaaGreatDoor
open Go.RowKit

set_option maxRecDepth 100000 in
theorem softbit_walk (w : World) :
    Calls Tryz.prog 211 #[.int .i64 64] w fun e w' => e = .returned (.int .u64 9223372036854775808) ∧ w' = w := by
  go_enter Tryz.func211, Tryz.ntmps211
  go_wp2
  refine bodyPost_ret (v := .int .u64 9223372036854775808) (by simp [results, Tryz.results211, go_sem]) rfl ⟨rfl, rfl⟩

set_option maxRecDepth 100000 in
theorem softsigned_walk (neg : Bool) (x : Nat) (hx : x < 2 ^ 63) (w : World) :
    Calls Tryz.prog 188 #[.int .i64 64, .bool neg, .int .u64 (x : Int)] w fun e w' => e = .returned (.int .u64 ((if neg then 2 ^ 63 + x else x : Nat) : Int)) ∧ w' = w := by
  have ho2 : bits BinOp.or IntKind.u64 (x : Int) 9223372036854775808 = ((2 ^ 63 + x : Nat) : Int) := or_high 63 x (by simp) hx
  have HO := Lib.hid ho2
  have HB := Lib.hid (fun W => softbit_walk W)
  clear ho2 hx
  cases neg
  · go_enter Tryz.func188, Tryz.ntmps188
    go_wp2_with fail
    refine bodyPost_ret (v := .int .u64 (x : Int)) (by simp [results, Tryz.results188, go_sem]) rfl ⟨rfl, rfl⟩
  · obtain ⟨y, hy⟩ : ∃ y, bits BinOp.or IntKind.u64 (x : Int) 9223372036854775808 = y := ⟨_, rfl⟩
    have HY := Lib.hid (hy.symm.trans HO.out)
    go_enter Tryz.func188, Tryz.ntmps188
    go_wp2_with fail
    refine (HB.out _).mono ?_
    rintro e w' ⟨rfl, hw⟩
    (have h0 := hw.symm); subst h0
    clear hw
    go_wp2_with fail
    refine bodyPost_ret (v := .int .u64 y) (by simp [results, Tryz.results188, go_sem]) rfl ⟨by rw [HY.out]; rfl, rfl⟩
end Go.Proofs.YtibjogbalmbeeaaGreatDoor
