/- Walks of calc: a desk's line that is a command. · The walk of calc's Line, given what line does. · Walks of calc: a term of one factor, an expression of one term. · Walks of soft: signBit. · Walks of soft: tell at a zero and at an infinity. · Walks of soft: turned at a zero and at an infinity. · Walks of soft: Neg at a zero and at an infinity, given what read answers. · Walks of soft: read at a zero, given the class. -/
import Derived.Test.YtibjogbalmbeeaaGreatDoorY24
import Derived.Test.YtibjogbalmbeeaaGreatDoorY09

namespace Go.Proofs.YtibjogbalmbeeaaGreatDoor
open Go.RowKit

theorem Box3.grb {W W' : World} {g q : Nat} {v0 v1 v2 : Value} (h : Box3 W g v0 v1 v2) (hg : W.grownBy W' (some q)) (hne : g ≠ q) : Box3 W' g v0 v1 v2 := by
  obtain ⟨h0, h1, h2, f0, f1, f2, hl⟩ := h
  have e := hg.block g hl (fun e => hne (by injection e with e))
  refine ⟨?_, ?_, ?_, (World.frozen?_of_block (a := ⟨g, 0, none⟩) e).trans f0, (World.frozen?_of_block (a := ⟨g, 1, none⟩) e).trans f1, (World.frozen?_of_block (a := ⟨g, 2, none⟩) e).trans f2, Nat.lt_of_lt_of_le hl hg.size⟩
  · exact (World.cell?_of_block (a := ⟨g, 0, none⟩) e).trans h0
  · exact (World.cell?_of_block (a := ⟨g, 1, none⟩) e).trans h1
  · exact (World.cell?_of_block (a := ⟨g, 2, none⟩) e).trans h2
theorem St.step2 {w W : World} {g s n D L d h l} (H : St w W g s n D L d h l) (hn : n ≤ s.size) (hs : s.size ≤ 100000) :
    Calls Tryz.prog 26 #[.pointer (some ⟨g, 0, none⟩)] W fun e w' => e = .returned (.tuple #[]) ∧ St w w' g s (nxt s n) D L d h l ∧ W.grownBy w' (some g) := by
  obtain ⟨hb, v, hr, ho⟩ := H
  refine (step_walk hr (nxt_le hn) hs).mono ?_
  rintro e w' ⟨rfl, h1, h2⟩
  exact ⟨rfl, ⟨hb.trans (grb_below h2 (Nat.le_of_lt hr.lt)), v, h1, ho.grb h2⟩, h2⟩

set_option maxRecDepth 100000 in
set_option maxHeartbeats 2000000 in
theorem desk_line_cmd {w W : World} {g q : Nat} {s : ByteArray} {L m : Value} {hx sl hx' : Bool} (H : St w W g s 0 (.pointer (some ⟨q, 0, none⟩)) L 0 (-1) [])
    (hD : DkB W q m hx sl) (hq : q < g) (hg : w.heap.size = g) (hs : s.size ≤ 100000) (hk : knd s 0 = 1)
    (hdr : ((txt s 0).toList == [100, 114, 111, 112]) = false) (hcm : ∀ U, Calls Tryz.prog 52 #[.string (txt s 0)] U fun e w' => e = .returned (.bool true) ∧ w' = U)
    (hend : knd s (nxt s 0) = 0)
    (hdk : ∀ U, DkB U q m hx sl → Calls Tryz.prog 54 #[.pointer (some ⟨q, 0, none⟩), .string (txt s 0)] U fun e w' => e = .returned (.string ⟨#[]⟩) ∧ w' = U.setCell ⟨q, 1, none⟩ (.bool hx')) :
    Calls Tryz.prog 27 #[.pointer (some ⟨q, 0, none⟩), .pointer (some ⟨g, 0, none⟩)] W fun e w' => e = .returned (.string ⟨#[]⟩) ∧ w.grownBy w' (some q) ∧ DkB w' q m hx' sl := by
  obtain ⟨c2, c3, c4⟩ := H.piece
  rw [hk] at c2
  have HCm := Lib.hid hcm
  have HSt := Lib.hid (fun U (hU : St w U g s 0 (.pointer (some ⟨q, 0, none⟩)) L 0 (-1) []) => hU.step2 (Nat.zero_le _) hs)
  have hlt := H.lt
  have hb0 := H.1
  have HST := Lib.hid H
  have HK := Lib.hid hD
  have HG := Lib.hid hlt
  have HQ := Lib.hid hq
  have HGs := Lib.hid hg
  have HE := Lib.hid hend
  have HD0 := Lib.hid (show DkB w q m hx sl from (hb0.block q hq).symm.trans hD)
  have HDk := Lib.hid hdk
  generalize txt s 0 = t at *
  generalize plc s 0 = a at *
  generalize nxt s 0 = n at *
  have hA := below_alloc' W (.cells #[.int .i64 1, .string t, .int .i64 (a : Int)] 66)
  have HB0 := Lib.hid (show Box3 (W.alloc (.cells #[.int .i64 1, .string t, .int .i64 (a : Int)] 66)) W.heap.size (.int .i64 1) (.string t) (.int .i64 (a : Int)) from ⟨by simp, by simp, by simp, by simp, by simp, by simp, by simp⟩)
  have HS0 := Lib.hid (HSt.out _ (H.below hA))
  have HA := Lib.hid hA
  clear H hD hq hs hk hcm hb0 hlt hA hend hdk hg HSt
  go_enter Tryz.func27, Tryz.ntmps27
  go_wp2_with fail
  refine (HCm.out _).mono ?_
  rintro e wq ⟨rfl, hw⟩
  (have h0 := hw.symm); subst h0
  clear hw
  go_wp2_with fail
  refine HS0.out.mono ?_
  rintro e w2 ⟨rfl, h2, h3⟩
  have d2 : w2.cell? ⟨g, 2, none⟩ = some (.int .i64 0) := by have := h2.piece.1; rw [HE.out] at this; exact this
  obtain ⟨r0, r1, r2, _⟩ := HB0.out.grb h3 (by have := HG.out; omega)
  have HK2 := Lib.hid (HD0.out.keep h2.1 HQ.out)
  have HB2 := Lib.hid h2.1
  have HDk2 := Lib.hid (HDk.out w2 HK2.out)
  clear h2 h3 HS0 HDk HB0 c2 c3 c4
  go_wp2_with fail
  refine HDk2.out.mono ?_
  rintro e w3 ⟨rfl, h3⟩
  have HW3 := Lib.hid h3
  clear h3
  go_wp2_with fail
  refine bodyPost_ret (v := .string ⟨#[]⟩) (by simp [results, Tryz.results27, go_sem]) rfl ⟨rfl, ?_, ?_⟩
  · rw [HW3.out]
    exact grb_set (grb_of q (by rw [HGs.out]; exact HB2.out)) 1 _
  · rw [HW3.out]
    exact HK2.out.setHex hx'
end Go.Proofs.YtibjogbalmbeeaaGreatDoor

namespace Go.Proofs.YtibjogbalmbeeaaGreatDoor
open Go.RowKit

theorem grb_new {w w1 : World} {q : Nat} (h : w.grownBy w1 (some q)) (p : Addr) (hp : w.heap.size ≤ p.block) (u : Value) : w.grownBy (w1.setCell p u) (some q) :=
  ⟨h.os, h.tape, h.output, by have := h.size; simpa using this, fun k hk he => (Below.heap_setCell w1 p u k (by omega)).trans (h.block k hk he)⟩
theorem DkB.away {w : World} {q m hx sl} (H : DkB w q m hx sl) {p : Addr} (hp : p.block ≠ q) (u : Value) : DkB (w.setCell p u) q m hx sl := (Below.heap_setCell w p u q (fun e => hp e.symm)).trans H

set_option maxRecDepth 100000 in
set_option maxHeartbeats 2000000 in
theorem Line_walk {w : World} {q : Nat} {m : Value} {hx hx' : Bool} (s R : ByteArray) (hD : DkB w q m hx false) (hs : s.size ≤ 1000)
    (hL : ∀ (w1 W : World) (g : Nat) (L : Value), Below w.heap.size w w1 → w1.heap.size = g → St w1 W g s 0 (.pointer (some ⟨q, 0, none⟩)) L 0 (-1) [] → Calls Tryz.prog 27 #[.pointer (some ⟨q, 0, none⟩), .pointer (some ⟨g, 0, none⟩)] W fun e w' => e = .returned (.string R) ∧ DkB w' q m hx' false ∧ w1.grownBy w' (some q)) :
    Calls Tryz.prog 11 #[.pointer (some ⟨q, 0, none⟩), .string s] w fun e w' => e = .returned (.agg #[.string R, .int .i64 0, .int .i64 0]) ∧ DkB w' q m hx' false ∧ w.grownBy w' (some q) := by
  have hmf : ∀ (fn : Fn) (first cap : Array Value) (w : World), (Instr.makeFunc fn first cap).run Tryz.prog w = .ok (.func fn first cap) w := fun _ _ _ _ => rfl
  have hA := below_alloc' w (.cells #[.string ⟨#[]⟩, .int .i64 0, .int .i64 0] 31)
  have HR0 := Lib.hid (show Box3 (w.alloc (.cells #[.string ⟨#[]⟩, .int .i64 0, .int .i64 0] 31)) w.heap.size (.string ⟨#[]⟩) (.int .i64 0) (.int .i64 0) from ⟨by simp, by simp, by simp, by simp, by simp, by simp, by simp⟩)
  have c2 : (w.alloc (.cells #[.string ⟨#[]⟩, .int .i64 0, .int .i64 0] 31)).cell? ⟨q, 2, none⟩ = some (.bool false) := (hD.keep hA hD.lt).cell 2
  have hl : ¬ (1000 : Int) < (s.size : Int) := by omega
  have HA := Lib.hid hA
  have HD := Lib.hid hD
  have HL := Lib.hid hL
  have HS := Lib.hid hs
  have HT := Lib.hid (fun W => trignew_walk W)
  clear hA hD hL hs
  go_enter_defers Tryz.func11, Tryz.ntmps11
  go_wp2_with fail
  refine (HT.out _).mono ?_
  rintro e w1 ⟨pL, rfl, hb1⟩
  have hW1 := below_chain HA.out hb1
  have HR1 := Lib.hid (HR0.out.below hb1)
  have hrd : RdB (w1.alloc (.cells #[.string s, .int .i64 0, .int .i64 0, .string ⟨#[]⟩, .int .i64 0, .pointer (some ⟨q, 0, none⟩), .pointer (some pL), .int .i64 0, .slice none 0 0, .int .i64 (-1)] 71)) w1.heap.size s 0 0 ⟨#[]⟩ 0 (.pointer (some ⟨q, 0, none⟩)) (.pointer (some pL)) 0 (.slice none 0 0) (-1) := heap_alloc_new _ _
  have HSp := Lib.hid (step_walk hrd (Nat.zero_le _) (by have := HS.out; omega))
  have HL1 := Lib.hid (fun W (hW : St w1 W w1.heap.size s 0 (.pointer (some ⟨q, 0, none⟩)) (.pointer (some pL)) 0 (-1) []) => HL.out w1 W w1.heap.size (.pointer (some pL)) hW1 rfl hW)
  have HW1 := Lib.hid hW1
  clear hb1 hW1 hrd HR0 HT HL
  go_wp2_with fail
  refine HSp.out.mono ?_
  rintro e w2 ⟨rfl, h2, h3⟩
  have hst : St w1 w2 w1.heap.size s 0 (.pointer (some ⟨q, 0, none⟩)) (.pointer (some pL)) 0 (-1) [] := ⟨(below_alloc' w1 _).trans (grb_below h3 (by simp)), _, h2, OwV.nil _ _⟩
  have HL2 := Lib.hid (HL1.out w2 hst)
  clear h2 h3 hst HL1 HSp
  go_wp2_with fail
  refine HL2.out.mono ?_
  rintro e w3 ⟨rfl, h3, h4⟩
  have hqp : w.heap.size ≠ q := by have := HD.out.lt; omega
  have HR3 := Lib.hid (HR1.out.grb h4 hqp)
  have HR4 := Lib.hid (HR3.out.put (u0 := .string R) (u1 := .int .i64 0) (u2 := .int .i64 0))
  have hG : w.grownBy w3 (some q) := grb_trans (grb_of q HW1.out) h4
  have HG := Lib.hid (grb_new (grb_new (grb_new hG ⟨w.heap.size, 0, none⟩ (Nat.le_refl _) (.string R)) ⟨w.heap.size, 1, none⟩ (Nat.le_refl _) (.int .i64 0)) ⟨w.heap.size, 2, none⟩ (Nat.le_refl _) (.int .i64 0))
  have HK := Lib.hid (((h3.away (p := ⟨w.heap.size, 0, none⟩) hqp (.string R)).away (p := ⟨w.heap.size, 1, none⟩) hqp (.int .i64 0)).away (p := ⟨w.heap.size, 2, none⟩) hqp (.int .i64 0))
  obtain ⟨r0, r1, r2, f0, f1, f2, _⟩ := HR3.out
  clear h3 h4 hG HL2 HR1 HW1 HR3 hqp
  have hp := HR4.out
  unfold put3 at hp
  obtain ⟨e0, e1, e2, _⟩ := hp
  go_wp2
  refine leaves_cons (f := 24) (args := #[.pointer (some ⟨w.heap.size, 0, none⟩)]) (by simp) (by simp [go_sem]) ?_
  refine (line_idle _ _).mono ?_
  rintro e u' w'' ⟨rfl, rfl, rfl⟩
  exact ⟨.agg #[.string R, .int .i64 0, .int .i64 0], by simp [results, Tryz.results11, go_sem, e0, e1, e2], rfl, HK.out, HG.out⟩
end Go.Proofs.YtibjogbalmbeeaaGreatDoor

namespace Go.Proofs.YtibjogbalmbeeaaGreatDoor
open Go.RowKit

set_option maxRecDepth 100000 in
set_option maxHeartbeats 2000000 in
theorem St.term_one {w W : World} {g s n n2 D L d h l l2} (H : St w W g s n D L d h l) (hm1 : isM (knd s n2) (txt s n2) ⟨#[42]⟩ = false) (hm2 : isM (knd s n2) (txt s n2) ⟨#[47]⟩ = false)
    (hE : ∀ U, St w U g s n D L d h l → Calls Tryz.prog 164 #[.pointer (some ⟨g, 0, none⟩)] U fun e w' => e = .returned (.tuple #[]) ∧ St w w' g s n2 D L d h l2) :
    Calls Tryz.prog 141 #[.pointer (some ⟨g, 0, none⟩)] W fun e w' => e = .returned (.tuple #[]) ∧ St w w' g s n2 D L d h l2 := by
  have HE := Lib.hid (hE W H)
  have HI1 := Lib.hid (fun U => is_walk (knd s n2) (txt s n2) (plc s n2) ⟨#[42]⟩ U)
  have HI2 := Lib.hid (fun U => is_walk (knd s n2) (txt s n2) (plc s n2) ⟨#[47]⟩ U)
  rw [hm1] at HI1
  rw [hm2] at HI2
  clear H hE hm1 hm2
  go_enter Tryz.func141, Tryz.ntmps141
  go_wp2_with fail
  refine HE.out.mono ?_
  rintro e w1 ⟨rfl, h1⟩
  obtain ⟨c2, c3, c4⟩ := h1.piece
  have H1 := Lib.hid h1
  clear h1
  go_wp2_with fail
  refine wp_loop_once ?_
  go_wp2_with fail
  refine (HI1.out _).mono ?_
  rintro e w2 ⟨rfl, h2⟩
  have H2 := Lib.hid (H1.out.below h2)
  obtain ⟨d2, d3, d4⟩ := H2.out.piece
  clear h2
  go_wp2_with fail
  refine (HI2.out _).mono ?_
  rintro e w3 ⟨rfl, h3⟩
  have H3 := Lib.hid (H2.out.below h3)
  clear h3
  go_wp2_with fail
  exact bodyPost_end (results_none (by rfl) _ _ _) (by rfl) ⟨rfl, H3.out⟩

set_option maxRecDepth 100000 in
set_option maxHeartbeats 2000000 in
theorem St.expression_one {w W : World} {g s n n2 D L d h l l2} (H : St w W g s n D L d h l) (hm1 : isM (knd s n2) (txt s n2) ⟨#[43]⟩ = false) (hm2 : isM (knd s n2) (txt s n2) ⟨#[45]⟩ = false)
    (hE : ∀ U, St w U g s n D L d h l → Calls Tryz.prog 141 #[.pointer (some ⟨g, 0, none⟩)] U fun e w' => e = .returned (.tuple #[]) ∧ St w w' g s n2 D L d h l2) :
    Calls Tryz.prog 104 #[.pointer (some ⟨g, 0, none⟩)] W fun e w' => e = .returned (.tuple #[]) ∧ St w w' g s n2 D L d h l2 := by
  have HE := Lib.hid (hE W H)
  have HI1 := Lib.hid (fun U => is_walk (knd s n2) (txt s n2) (plc s n2) ⟨#[43]⟩ U)
  have HI2 := Lib.hid (fun U => is_walk (knd s n2) (txt s n2) (plc s n2) ⟨#[45]⟩ U)
  rw [hm1] at HI1
  rw [hm2] at HI2
  clear H hE hm1 hm2
  go_enter Tryz.func104, Tryz.ntmps104
  go_wp2_with fail
  refine HE.out.mono ?_
  rintro e w1 ⟨rfl, h1⟩
  obtain ⟨c2, c3, c4⟩ := h1.piece
  have H1 := Lib.hid h1
  clear h1
  go_wp2_with fail
  refine wp_loop_once ?_
  go_wp2_with fail
  refine (HI1.out _).mono ?_
  rintro e w2 ⟨rfl, h2⟩
  have H2 := Lib.hid (H1.out.below h2)
  obtain ⟨d2, d3, d4⟩ := H2.out.piece
  clear h2
  go_wp2_with fail
  refine (HI2.out _).mono ?_
  rintro e w3 ⟨rfl, h3⟩
  have H3 := Lib.hid (H2.out.below h3)
  clear h3
  go_wp2_with fail
  exact bodyPost_end (results_none (by rfl) _ _ _) (by rfl) ⟨rfl, H3.out⟩
end Go.Proofs.YtibjogbalmbeeaaGreatDoor

namespace Go.Proofs.YtibjogbalmbeeaaGreatDoor
open Go.RowKit

set_option maxRecDepth 100000 in
theorem softbit_walk (w : World) :
    Calls Tryz.prog 211 #[.int .i64 64] w fun e w' => e = .returned (.int .u64 9223372036854775808) ∧ w' = w := by
  go_enter Tryz.func211, Tryz.ntmps211
  go_wp2
  refine bodyPost_ret (v := .int .u64 9223372036854775808) (by simp [results, Tryz.results211, go_sem]) rfl ⟨rfl, rfl⟩

set_option maxRecDepth 100000 in
theorem softsigned_walk (neg : Bool) (x : Nat) (hx : x < 2 ^ 63) (w : World) :
    Calls Tryz.prog 188 #[.int .i64 64, .bool neg, .int .u64 (x : Int)] w fun e w' => e = .returned (.int .u64 ((if neg then 2 ^ 63 + x else x : Nat) : Int)) ∧ w' = w := by
  have ho2 : bits BinOp.or IntKind.u64 (x : Int) 9223372036854775808 = ((2 ^ 63 + x : Nat) : Int) := or_high 63 x (by simp) hx
  have HO := Lib.hid ho2
  have HB := Lib.hid (fun W => softbit_walk W)
  clear ho2 hx
  cases neg
  · go_enter Tryz.func188, Tryz.ntmps188
    go_wp2_with fail
    refine bodyPost_ret (v := .int .u64 (x : Int)) (by simp [results, Tryz.results188, go_sem]) rfl ⟨rfl, rfl⟩
  · obtain ⟨y, hy⟩ : ∃ y, bits BinOp.or IntKind.u64 (x : Int) 9223372036854775808 = y := ⟨_, rfl⟩
    have HY := Lib.hid (hy.symm.trans HO.out)
    go_enter Tryz.func188, Tryz.ntmps188
    go_wp2_with fail
    refine (HB.out _).mono ?_
    rintro e w' ⟨rfl, hw⟩
    (have h0 := hw.symm); subst h0
    clear hw
    go_wp2_with fail
    refine bodyPost_ret (v := .int .u64 y) (by simp [results, Tryz.results188, go_sem]) rfl ⟨by rw [HY.out]; rfl, rfl⟩
end Go.Proofs.YtibjogbalmbeeaaGreatDoor

namespace Go.Proofs.YtibjogbalmbeeaaGreatDoor
open Go.RowKit

set_option maxRecDepth 100000 in
set_option maxHeartbeats 1000000 in
theorem tell_inf (neg : Bool) (w : World) :
    Calls Tryz.prog 169 #[.int .i64 64, .iface 239 (.agg #[.bool neg])] w fun e w' => e = .returned (.tuple #[.int .u64 ((if neg then 2 ^ 63 + 9218868437227405312 else 9218868437227405312 : Nat) : Int), .int .i64 0]) ∧ Below w.heap.size w w' := by
  have hta : ∀ W : World, (Instr.typeAssert (.iface 239 (.agg #[.bool neg])) 217 239 true).run Tryz.prog W = .ok (.tuple #[.agg #[.bool neg], .bool true]) W := fun _ => by kernel_rfl
  have HS := Lib.hid (fun W => softsigned_walk neg 9218868437227405312 (by decide) W)
  have hb := below_alloc' w (.cells #[.bool neg] 239)
  obtain ⟨y, hy⟩ : ∃ y : Int, ((if neg then 2 ^ 63 + 9218868437227405312 else 9218868437227405312 : Nat) : Int) = y := ⟨_, rfl⟩
  rw [hy] at HS ⊢
  clear hy
  go_enter Tryz.func169, Tryz.ntmps169
  go_wp2_with fail
  refine (HS.out _).mono ?_
  rintro e w' ⟨rfl, hw⟩
  (have h0 := hw.symm); subst h0
  clear hw
  go_wp2_with fail
  refine bodyPost_ret (v := .tuple #[.int .u64 y, .int .i64 0]) (by simp [results, Tryz.results169, go_sem]) rfl ⟨rfl, hb⟩

set_option maxRecDepth 100000 in
set_option maxHeartbeats 1000000 in
theorem tell_zero (neg : Bool) (w : World) :
    Calls Tryz.prog 169 #[.int .i64 64, .iface 241 (.agg #[.bool neg])] w fun e w' => e = .returned (.tuple #[.int .u64 ((if neg then 2 ^ 63 else 0 : Nat) : Int), .int .i64 0]) ∧ Below w.heap.size w w' := by
  have ht0 : ∀ W : World, (Instr.typeAssert (.iface 241 (.agg #[.bool neg])) 217 239 true).run Tryz.prog W = .ok (.tuple #[.agg #[.bool false], .bool false]) W := fun _ => by kernel_rfl
  have hta : ∀ W : World, (Instr.typeAssert (.iface 241 (.agg #[.bool neg])) 217 241 true).run Tryz.prog W = .ok (.tuple #[.agg #[.bool neg], .bool true]) W := fun _ => by kernel_rfl
  have HS := Lib.hid (fun W => softsigned_walk neg 0 (by decide) W)
  have hb := below_alloc' w (.cells #[.bool neg] 241)
  rw [show (2 ^ 63 + 0 : Nat) = 2 ^ 63 from rfl] at HS
  obtain ⟨y, hy⟩ : ∃ y : Int, ((if neg then 2 ^ 63 else 0 : Nat) : Int) = y := ⟨_, rfl⟩
  rw [hy] at HS ⊢
  clear hy
  go_enter Tryz.func169, Tryz.ntmps169
  go_wp2_with fail
  refine (HS.out _).mono ?_
  rintro e w' ⟨rfl, hw⟩
  (have h0 := hw.symm); subst h0
  clear hw
  go_wp2_with fail
  refine bodyPost_ret (v := .tuple #[.int .u64 y, .int .i64 0]) (by simp [results, Tryz.results169, go_sem]) rfl ⟨rfl, hb⟩
end Go.Proofs.YtibjogbalmbeeaaGreatDoor

namespace Go.Proofs.YtibjogbalmbeeaaGreatDoor
open Go.RowKit

set_option maxRecDepth 100000 in
theorem turned_inf (neg : Bool) (w : World) :
    Calls Tryz.prog 464 #[.agg #[.bool neg]] w fun e w' => e = .returned (.iface 239 (.agg #[.bool (!neg)])) ∧ Below w.heap.size w w' := by
  have hb := below_alloc' w (.cells #[.bool neg] 239)
  go_enter Tryz.func464, Tryz.ntmps464
  go_wp2_with fail
  refine bodyPost_ret (v := .iface 239 (.agg #[.bool (!neg)])) (by simp [results, Tryz.results464, go_sem]) rfl ⟨rfl, hb⟩

set_option maxRecDepth 100000 in
theorem turned_nought (neg : Bool) (w : World) :
    Calls Tryz.prog 466 #[.agg #[.bool neg]] w fun e w' => e = .returned (.iface 241 (.agg #[.bool (!neg)])) ∧ Below w.heap.size w w' := by
  have hb := below_alloc' w (.cells #[.bool neg] 241)
  go_enter Tryz.func466, Tryz.ntmps466
  go_wp2_with fail
  refine bodyPost_ret (v := .iface 241 (.agg #[.bool (!neg)])) (by simp [results, Tryz.results466, go_sem]) rfl ⟨rfl, hb⟩
end Go.Proofs.YtibjogbalmbeeaaGreatDoor

namespace Go.Proofs.YtibjogbalmbeeaaGreatDoor
open Go.RowKit

set_option maxRecDepth 100000 in
set_option maxHeartbeats 1000000 in
theorem neg_nought (neg : Bool) (b : Nat) (w : World)
    (hR : ∀ U, Calls Tryz.prog 187 #[.int .i64 64, .int .u64 (b : Int)] U fun e w' => e = .returned (.tuple #[.iface 241 (.agg #[.bool neg]), .int .i64 0]) ∧ Below U.heap.size U w') :
    Calls Tryz.prog 180 #[.int .i64 64, .int .u64 (b : Int)] w fun e w' => e = .returned (.tuple #[.int .u64 ((if (!neg) then 2 ^ 63 else 0 : Nat) : Int), .int .i64 0]) ∧ Below w.heap.size w w' := by
  have HR := Lib.hid (hR w)
  have HU := Lib.hid (fun U => turned_nought neg U)
  have HT := Lib.hid (fun U => tell_zero (!neg) U)
  obtain ⟨y, hy⟩ : ∃ y : Int, ((if (!neg) then 2 ^ 63 else 0 : Nat) : Int) = y := ⟨_, rfl⟩
  rw [hy] at HT ⊢
  clear hy hR
  go_enter Tryz.func180, Tryz.ntmps180
  go_wp2_with fail
  refine HR.out.mono ?_
  rintro e w1 ⟨rfl, h1⟩
  have H1 := Lib.hid h1
  clear h1
  go_wp2_with fail
  refine (HU.out _).mono ?_
  rintro e w2 ⟨rfl, h2⟩
  have H2 := Lib.hid (below_chain H1.out h2)
  clear h2
  go_wp2_with fail
  refine (HT.out _).mono ?_
  rintro e w3 ⟨rfl, h3⟩
  have H3 := Lib.hid (below_chain H2.out h3)
  clear h3
  go_wp2_with fail
  refine bodyPost_ret (v := .tuple #[.int .u64 y, .int .i64 0]) (by simp [results, Tryz.results180, go_sem]) rfl ⟨rfl, H3.out⟩

set_option maxRecDepth 100000 in
set_option maxHeartbeats 1000000 in
theorem neg_inf (neg : Bool) (b : Nat) (w : World)
    (hR : ∀ U, Calls Tryz.prog 187 #[.int .i64 64, .int .u64 (b : Int)] U fun e w' => e = .returned (.tuple #[.iface 239 (.agg #[.bool neg]), .int .i64 0]) ∧ Below U.heap.size U w') :
    Calls Tryz.prog 180 #[.int .i64 64, .int .u64 (b : Int)] w fun e w' => e = .returned (.tuple #[.int .u64 ((if (!neg) then 2 ^ 63 + 9218868437227405312 else 9218868437227405312 : Nat) : Int), .int .i64 0]) ∧ Below w.heap.size w w' := by
  have HR := Lib.hid (hR w)
  have HU := Lib.hid (fun U => turned_inf neg U)
  have HT := Lib.hid (fun U => tell_inf (!neg) U)
  obtain ⟨y, hy⟩ : ∃ y : Int, ((if (!neg) then 2 ^ 63 + 9218868437227405312 else 9218868437227405312 : Nat) : Int) = y := ⟨_, rfl⟩
  rw [hy] at HT ⊢
  clear hy hR
  go_enter Tryz.func180, Tryz.ntmps180
  go_wp2_with fail
  refine HR.out.mono ?_
  rintro e w1 ⟨rfl, h1⟩
  have H1 := Lib.hid h1
  clear h1
  go_wp2_with fail
  refine (HU.out _).mono ?_
  rintro e w2 ⟨rfl, h2⟩
  have H2 := Lib.hid (below_chain H1.out h2)
  clear h2
  go_wp2_with fail
  refine (HT.out _).mono ?_
  rintro e w3 ⟨rfl, h3⟩
  have H3 := Lib.hid (below_chain H2.out h3)
  clear h3
  go_wp2_with fail
  refine bodyPost_ret (v := .tuple #[.int .u64 y, .int .i64 0]) (by simp [results, Tryz.results180, go_sem]) rfl ⟨rfl, H3.out⟩
end Go.Proofs.YtibjogbalmbeeaaGreatDoor

namespace Go.Proofs.YtibjogbalmbeeaaGreatDoor
open Go.RowKit

set_option maxRecDepth 100000 in
set_option maxHeartbeats 1000000 in
theorem read_nought (b : Nat) (neg : Bool) (w : World)
    (hs : (bits BinOp.and IntKind.u64 (b : Int) 9223372036854775808 != 0) = neg)
    (hC : Calls Tryz.prog 16 #[.int .i64 64, .int .u64 (b : Int)] w fun e w' => e = .returned (.tuple #[.int .i64 0, .int .i64 0]) ∧ Below w.heap.size w w') :
    Calls Tryz.prog 187 #[.int .i64 64, .int .u64 (b : Int)] w fun e w' => e = .returned (.tuple #[.iface 241 (.agg #[.bool neg]), .int .i64 0]) ∧ Below w.heap.size w w' := by
  have HC := Lib.hid hC
  have HB := Lib.hid (fun W => softbit_walk W)
  clear hC
  go_enter Tryz.func187, Tryz.ntmps187
  go_wp2_with fail
  refine HC.out.mono ?_
  rintro e w1 ⟨rfl, h1⟩
  have H1 := Lib.hid h1
  clear h1
  go_wp2_with fail
  refine (HB.out _).mono ?_
  rintro e w2 ⟨rfl, hw⟩
  (have h0 := hw.symm); subst h0
  clear hw
  go_wp2_with fail
  refine bodyPost_ret (v := .tuple #[.iface 241 (.agg #[.bool neg]), .int .i64 0]) (by simp [results, Tryz.results187, go_sem]) rfl ⟨rfl, H1.out⟩

set_option maxRecDepth 100000 in
set_option maxHeartbeats 1000000 in
theorem read_inf (b : Nat) (neg : Bool) (w : World)
    (hs : (bits BinOp.and IntKind.u64 (b : Int) 9223372036854775808 != 0) = neg)
    (hC : Calls Tryz.prog 16 #[.int .i64 64, .int .u64 (b : Int)] w fun e w' => e = .returned (.tuple #[.int .i64 3, .int .i64 0]) ∧ Below w.heap.size w w') :
    Calls Tryz.prog 187 #[.int .i64 64, .int .u64 (b : Int)] w fun e w' => e = .returned (.tuple #[.iface 239 (.agg #[.bool neg]), .int .i64 0]) ∧ Below w.heap.size w w' := by
  have HC := Lib.hid hC
  have HB := Lib.hid (fun W => softbit_walk W)
  clear hC
  go_enter Tryz.func187, Tryz.ntmps187
  go_wp2_with fail
  refine HC.out.mono ?_
  rintro e w1 ⟨rfl, h1⟩
  have H1 := Lib.hid h1
  clear h1
  go_wp2_with fail
  refine (HB.out _).mono ?_
  rintro e w2 ⟨rfl, hw⟩
  (have h0 := hw.symm); subst h0
  clear hw
  go_wp2_with fail
  refine bodyPost_ret (v := .tuple #[.iface 239 (.agg #[.bool neg]), .int .i64 0]) (by simp [results, Tryz.results187, go_sem]) rfl ⟨rfl, H1.out⟩
end Go.Proofs.YtibjogbalmbeeaaGreatDoor
