/- Walks of calc: the function abs where the stack is empty. · Walks of calc: faults in the function abs; terms and expressions where the stack is empty; a word that is abs. · Plain facts: the text 1, there and back; the pieces of nested texts. -/
import Derived.Test.YtibjogbalmbeeaaGreatDoorU33

namespace Go.Proofs.YtibjogbalmbeeaaGreatDoor
open Go.RowKit

theorem Em.piece {U : World} {g s n D L d h} (H : Em U g s n D L d h) :
    U.cell? ⟨g, 2, none⟩ = some (.int .i64 (knd s n : Int)) ∧ U.cell? ⟨g, 3, none⟩ = some (.string (txt s n)) ∧ U.cell? ⟨g, 4, none⟩ = some (.int .i64 (plc s n : Int)) := RdB.piece H
theorem Em.lt {U : World} {g s n D L d h} (H : Em U g s n D L d h) : g < U.heap.size := RdB.lt H
theorem Fu.call {U W : World} {g s n D L d h} {x y : Nat} (a0 : Nat) (H : Fu U W g s n D L d h x) (hg : g < U.heap.size)
    (hA : ∀ W', Below g W W' → Calls Tryz.prog 245 #[.int .i64 64, .int .u64 (x : Int)] W' fun e w' => e = .returned (.tuple #[.int .u64 (y : Int), .int .i64 0]) ∧ Below W'.heap.size W' w') :
    Calls Tryz.prog 225 #[.pointer (some ⟨g, 0, none⟩), .agg #[.int .i64 1, .string absC, .int .i64 (a0 : Int)]] W fun e w' => e = .returned (.tuple #[]) ∧ Fu U w' g s n D L d h y := by
  obtain ⟨h0, v, hr, ho⟩ := H
  refine (call_abs a0 hr ho hg h0.size hA).mono ?_
  rintro e w' ⟨rfl, v', h1, h2, h3⟩
  exact ⟨rfl, ((Kp.of_grb h0 (Nat.le_refl _)).trans h3).grb, v', h1, h2⟩

set_option maxRecDepth 100000 in
set_option maxHeartbeats 4000000 in
theorem Em.func {U : World} {g s n n2 D L d h} {x y : Nat} (H : Em U g s n D L d h) (hk : knd s n = 1) (ht : txt s n = absC) (hn : n ≤ s.size) (hs : s.size ≤ 100000) (hd : d < 50)
    (hm1 : isM (knd s (nxt s n)) (txt s (nxt s n)) ⟨#[40]⟩ = true) (hn2 : n2 ≤ s.size) (hc : isM (knd s n2) (txt s n2) ⟨#[44]⟩ = false) (hm2 : isM (knd s n2) (txt s n2) ⟨#[41]⟩ = true)
    (hE : ∀ W, Below g U W → Em W g s (nxt s (nxt s n)) D L (d + 1) h → Calls Tryz.prog 104 #[.pointer (some ⟨g, 0, none⟩)] W fun e w' => e = .returned (.tuple #[]) ∧ Fu W w' g s n2 D L (d + 1) h x)
    (hA : ∀ W, Below g U W → Calls Tryz.prog 245 #[.int .i64 64, .int .u64 (x : Int)] W fun e w' => e = .returned (.tuple #[.int .u64 (y : Int), .int .i64 0]) ∧ Below W.heap.size W w') :
    Calls Tryz.prog 203 #[.pointer (some ⟨g, 0, none⟩), .int .i64 1] U fun e w' => e = .returned (.tuple #[]) ∧ Fu U w' g s (nxt s n2) D L d h y := by
  obtain ⟨c2, c3, c4⟩ := H.piece
  rw [hk] at c2
  rw [ht] at c3
  obtain ⟨an, han⟩ : ∃ an, plc s n = an := ⟨_, rfl⟩
  rw [han] at c4
  have hlt := H.lt
  have hA0 := below_alloc' U (.cells #[.int .i64 1, .string absC, .int .i64 (an : Int)] 66)
  have HBx := Lib.hid (show Box3 (U.alloc (.cells #[.int .i64 1, .string absC, .int .i64 (an : Int)] 66)) U.heap.size (.int .i64 1) (.string absC) (.int .i64 (an : Int)) from ⟨by simp, by simp, by simp, by simp, by simp, by simp, by simp⟩)
  have HS1 := Lib.hid ((H.below hA0).step hn hs)
  have HI1 := Lib.hid (fun W => is_walk (knd s (nxt s n)) (txt s (nxt s n)) (plc s (nxt s n)) ⟨#[40]⟩ W)
  rw [hm1] at HI1
  have HI2 := Lib.hid (fun W => is_walk (knd s n2) (txt s n2) (plc s n2) ⟨#[44]⟩ W)
  rw [hc] at HI2
  have HI3 := Lib.hid (fun W => is_walk (knd s n2) (txt s n2) (plc s n2) ⟨#[41]⟩ W)
  rw [hm2] at HI3
  have HDp := Lib.hid (fun W (hW : Em W g s (nxt s n) D L d h) => hW.deeper hd)
  have HS2 := Lib.hid (fun W (hW : Em W g s (nxt s n) D L (d + 1) h) => hW.step (nxt_le hn) hs)
  have HS3 := Lib.hid (fun U' W (hW : Fu U' W g s n2 D L (d + 1) h x) (hg : g < U'.heap.size) => hW.step hg hn2 hs)
  have HSd := Lib.hid (fun U' W (hW : Fu U' W g s (nxt s n2) D L (d + 1) h x) (hg : g < U'.heap.size) => hW.setDepth hg d)
  have HCl := Lib.hid (fun U' W (hW : Fu U' W g s (nxt s n2) D L d h x) (hg : g < U'.heap.size) hA => hW.call (y := y) an hg hA)
  have HE := Lib.hid hE
  have HA := Lib.hid hA
  have HLt := Lib.hid hlt
  have HG0 := Lib.hid (grb_of g hA0)
  have kw : IntKind.i64.wrap (((d + 1 : Nat) : Int) - 1) = (d : Int) := by rw [IntKind.wrap_i64]; omega
  obtain ⟨d1, hd1⟩ : ∃ d1, d + 1 = d1 := ⟨_, rfl⟩
  rw [hd1] at HDp HS2 HS3 HSd HE kw
  clear H hk ht hn hs hd hm1 hn2 hc hm2 hE hA hlt hA0 han hd1
  generalize absC = tn at *
  go_enter Tryz.func203, Tryz.ntmps203
  go_wp2_with fail
  refine HS1.out.mono ?_
  rintro e w2 ⟨rfl, h2, k2⟩
  have HM2 := Lib.hid h2
  have HB2 := Lib.hid (HBx.out.grb k2 (by have := HLt.out; omega))
  have HG2 := Lib.hid (grb_trans HG0.out k2)
  obtain ⟨p2, p3, p4⟩ := h2.piece
  clear h2 k2 HS1 HBx HG0 c2 c3 c4
  go_wp2_with fail
  refine (HI1.out _).mono ?_
  rintro e w3 ⟨rfl, h3⟩
  have HD3 := Lib.hid (HDp.out w3 (HM2.out.below h3))
  have HB3 := Lib.hid (HB2.out.below h3)
  have HG3 := Lib.hid (grb_trans HG2.out (grb_of g h3))
  clear h3 HM2 HB2 HG2 HDp p2 p3 p4
  go_wp2_with fail
  refine HD3.out.mono ?_
  rintro e w4 ⟨rfl, h4, k4⟩
  have HS4 := Lib.hid (HS2.out w4 h4)
  have HB4 := Lib.hid (HB3.out.grb k4 (by have := HLt.out; omega))
  have HG4 := Lib.hid (grb_trans HG3.out k4)
  clear h4 k4 HD3 HB3 HG3 HS2
  go_wp2_with fail
  refine HS4.out.mono ?_
  rintro e w5 ⟨rfl, h5, k5⟩
  have HB5 := Lib.hid (HB4.out.grb k5 (by have := HLt.out; omega))
  have HG5 := Lib.hid (grb_trans HG4.out k5)
  have HE5 := Lib.hid (HE.out w5 (grb_below HG5.out (Nat.le_of_lt HLt.out)) h5)
  have HL5 := Lib.hid h5.lt
  clear h5 k5 HS4 HB4 HG4 HE
  go_wp2_with fail
  refine HE5.out.mono ?_
  rintro e w6 ⟨rfl, h6⟩
  obtain ⟨p2, p3, p4⟩ := h6.piece
  have HF6 := Lib.hid h6
  clear h6 HE5
  go_wp2_with fail
  refine wp_loop_once ?_
  go_wp2_with fail
  refine (HI2.out _).mono ?_
  rintro e w7 ⟨rfl, h7⟩
  have HF7 := Lib.hid (HF6.out.below h7)
  obtain ⟨q2, q3, q4⟩ := HF7.out.piece
  clear h7 HF6 p2 p3 p4
  go_wp2_with fail
  refine (HI3.out _).mono ?_
  rintro e w8 ⟨rfl, h8⟩
  have HF8 := Lib.hid (HF7.out.below h8)
  have HS8 := Lib.hid (HS3.out w5 w8 HF8.out HL5.out)
  clear h8 HF7 q2 q3 q4 HS3
  go_wp2_with fail
  refine HS8.out.mono ?_
  rintro e w9 ⟨rfl, h9⟩
  obtain ⟨f7, z7⟩ := h9.depth
  have HF9 := Lib.hid (HSd.out w5 w9 h9 HL5.out)
  have HB9 := Lib.hid (HB5.out.grb HF9.out.1 (by have := HLt.out; omega))
  clear h9 HS8 HSd HF8
  have HC9 := Lib.hid (HCl.out w5 _ HF9.out HL5.out (fun W' hW' => HA.out W' ((grb_below (grb_trans HG5.out HF9.out.1) (Nat.le_of_lt HLt.out)).trans hW')))
  obtain ⟨r0, r1, r2, _⟩ := HB9.out
  go_wp2_with fail
  refine HC9.out.mono ?_
  rintro e w10 ⟨rfl, h10⟩
  have HF10 := Lib.hid (h10.restart HG5.out)
  clear h10
  go_wp2_with fail
  exact bodyPost_end (results_none (by rfl) _ _ _) (by rfl) ⟨rfl, HF10.out⟩
end Go.Proofs.YtibjogbalmbeeaaGreatDoor

namespace Go.Proofs.YtibjogbalmbeeaaGreatDoor
open Go.RowKit

set_option maxRecDepth 100000 in
set_option maxHeartbeats 4000000 in
theorem Em.func_no {U : World} {g s n D L d h} {ch : List PanicEntry} (H : Em U g s n D L d h) (hk : knd s n = 1) (ht : txt s n = absC) (hn : n ≤ s.size) (hs : s.size ≤ 100000) (hd : d < 50)
    (hm1 : isM (knd s (nxt s n)) (txt s (nxt s n)) ⟨#[40]⟩ = true)
    (hE : ∀ W, Below g U W → Em W g s (nxt s (nxt s n)) D L (d + 1) h → Calls Tryz.prog 104 #[.pointer (some ⟨g, 0, none⟩)] W fun e w' => e = .panicked ch ∧ Below g W w') :
    Calls Tryz.prog 203 #[.pointer (some ⟨g, 0, none⟩), .int .i64 1] U fun e w' => e = .panicked ch ∧ Below g U w' := by
  obtain ⟨c2, c3, c4⟩ := H.piece
  rw [hk] at c2
  rw [ht] at c3
  obtain ⟨an, han⟩ : ∃ an, plc s n = an := ⟨_, rfl⟩
  rw [han] at c4
  have hlt := H.lt
  have hA0 := below_alloc' U (.cells #[.int .i64 1, .string absC, .int .i64 (an : Int)] 66)
  have HBx := Lib.hid (show Box3 (U.alloc (.cells #[.int .i64 1, .string absC, .int .i64 (an : Int)] 66)) U.heap.size (.int .i64 1) (.string absC) (.int .i64 (an : Int)) from ⟨by simp, by simp, by simp, by simp, by simp, by simp, by simp⟩)
  have HS1 := Lib.hid ((H.below hA0).step hn hs)
  have HI1 := Lib.hid (fun W => is_walk (knd s (nxt s n)) (txt s (nxt s n)) (plc s (nxt s n)) ⟨#[40]⟩ W)
  rw [hm1] at HI1
  have HDp := Lib.hid (fun W (hW : Em W g s (nxt s n) D L d h) => hW.deeper hd)
  have HS2 := Lib.hid (fun W (hW : Em W g s (nxt s n) D L (d + 1) h) => hW.step (nxt_le hn) hs)
  have HE := Lib.hid hE
  have HLt := Lib.hid hlt
  have HG0 := Lib.hid (grb_of g hA0)
  obtain ⟨d1, hd1⟩ : ∃ d1, d + 1 = d1 := ⟨_, rfl⟩
  rw [hd1] at HDp HS2 HE
  clear H hk ht hn hs hd hm1 hE hlt hA0 han hd1
  generalize absC = tn at *
  go_enter Tryz.func203, Tryz.ntmps203
  go_wp2_with fail
  refine HS1.out.mono ?_
  rintro e w2 ⟨rfl, h2, k2⟩
  have HM2 := Lib.hid h2
  have HB2 := Lib.hid (HBx.out.grb k2 (by have := HLt.out; omega))
  have HG2 := Lib.hid (grb_trans HG0.out k2)
  obtain ⟨p2, p3, p4⟩ := h2.piece
  clear h2 k2 HS1 HBx HG0 c2 c3 c4
  go_wp2_with fail
  refine (HI1.out _).mono ?_
  rintro e w3 ⟨rfl, h3⟩
  have HD3 := Lib.hid (HDp.out w3 (HM2.out.below h3))
  have HB3 := Lib.hid (HB2.out.below h3)
  have HG3 := Lib.hid (grb_trans HG2.out (grb_of g h3))
  clear h3 HM2 HB2 HG2 HDp p2 p3 p4
  go_wp2_with fail
  refine HD3.out.mono ?_
  rintro e w4 ⟨rfl, h4, k4⟩
  have HS4 := Lib.hid (HS2.out w4 h4)
  have HB4 := Lib.hid (HB3.out.grb k4 (by have := HLt.out; omega))
  have HG4 := Lib.hid (grb_trans HG3.out k4)
  clear h4 k4 HD3 HB3 HG3 HS2
  go_wp2_with fail
  refine HS4.out.mono ?_
  rintro e w5 ⟨rfl, h5, k5⟩
  have HB5 := Lib.hid (HB4.out.grb k5 (by have := HLt.out; omega))
  have HG5 := Lib.hid (grb_trans HG4.out k5)
  have HE5 := Lib.hid (HE.out w5 (grb_below HG5.out (Nat.le_of_lt HLt.out)) h5)
  have HL5 := Lib.hid h5.lt
  clear h5 k5 HS4 HB4 HG4 HE
  go_wp2_with fail
  refine HE5.out.mono ?_
  rintro e w6 ⟨rfl, h6⟩
  have H6 := Lib.hid ((grb_below HG5.out (Nat.le_of_lt HLt.out)).trans h6)
  clear h6 HE5
  go_wp2_with fail
  exact ⟨rfl, rfl, H6.out⟩

set_option maxRecDepth 100000 in
set_option maxHeartbeats 4000000 in
theorem Em.func_deep {U : World} {g s n D L d h} (H : Em U g s n D L d h) (hk : knd s n = 1) (ht : txt s n = absC) (hn : n ≤ s.size) (hs : s.size ≤ 100000) (hd : d = 50)
    (hm1 : isM (knd s (nxt s n)) (txt s (nxt s n)) ⟨#[40]⟩ = true) :
    Calls Tryz.prog 203 #[.pointer (some ⟨g, 0, none⟩), .int .i64 1] U fun e w' => e = .panicked [cfault (plc s (nxt s n) : Int) 11] ∧ Below g U w' := by
  obtain ⟨c2, c3, c4⟩ := H.piece
  rw [hk] at c2
  rw [ht] at c3
  obtain ⟨an, han⟩ : ∃ an, plc s n = an := ⟨_, rfl⟩
  rw [han] at c4
  have hlt := H.lt
  have hA0 := below_alloc' U (.cells #[.int .i64 1, .string absC, .int .i64 (an : Int)] 66)
  have HBx := Lib.hid (show Box3 (U.alloc (.cells #[.int .i64 1, .string absC, .int .i64 (an : Int)] 66)) U.heap.size (.int .i64 1) (.string absC) (.int .i64 (an : Int)) from ⟨by simp, by simp, by simp, by simp, by simp, by simp, by simp⟩)
  have HS1 := Lib.hid ((H.below hA0).step hn hs)
  have HI1 := Lib.hid (fun W => is_walk (knd s (nxt s n)) (txt s (nxt s n)) (plc s (nxt s n)) ⟨#[40]⟩ W)
  rw [hm1] at HI1
  have HDp := Lib.hid (fun W (hW : Em W g s (nxt s n) D L d h) => deeper_no hW hd)
  have HLt := Lib.hid hlt
  have HG0 := Lib.hid (grb_of g hA0)
  clear H hk ht hn hs hd hm1 hlt hA0 han
  generalize absC = tn at *
  go_enter Tryz.func203, Tryz.ntmps203
  go_wp2_with fail
  refine HS1.out.mono ?_
  rintro e w2 ⟨rfl, h2, k2⟩
  have HM2 := Lib.hid h2
  have HB2 := Lib.hid (HBx.out.grb k2 (by have := HLt.out; omega))
  have HG2 := Lib.hid (grb_trans HG0.out k2)
  obtain ⟨p2, p3, p4⟩ := h2.piece
  clear h2 k2 HS1 HBx HG0 c2 c3 c4
  go_wp2_with fail
  refine (HI1.out _).mono ?_
  rintro e w3 ⟨rfl, h3⟩
  have HD3 := Lib.hid (HDp.out w3 (HM2.out.below h3))
  have HB3 := Lib.hid (HB2.out.below h3)
  have HG3 := Lib.hid (grb_trans HG2.out (grb_of g h3))
  clear h3 HM2 HB2 HG2 HDp p2 p3 p4
  go_wp2_with fail
  refine HD3.out.mono ?_
  rintro e w4 ⟨rfl, h4⟩
  have H4 := Lib.hid (show Below g U w4 from by rw [h4]; exact grb_below HG3.out (Nat.le_of_lt HLt.out))
  clear h4 HD3
  go_wp2_with fail
  exact ⟨rfl, rfl, H4.out⟩

set_option maxRecDepth 100000 in
set_option maxHeartbeats 2000000 in
theorem Em.term_one {W : World} {g s n2 D L d h x} (hm1 : isM (knd s n2) (txt s n2) ⟨#[42]⟩ = false) (hm2 : isM (knd s n2) (txt s n2) ⟨#[47]⟩ = false)
    (hE : Calls Tryz.prog 164 #[.pointer (some ⟨g, 0, none⟩)] W fun e w' => e = .returned (.tuple #[]) ∧ Fu W w' g s n2 D L d h x) :
    Calls Tryz.prog 141 #[.pointer (some ⟨g, 0, none⟩)] W fun e w' => e = .returned (.tuple #[]) ∧ Fu W w' g s n2 D L d h x := by
  have HE := Lib.hid hE
  have HI1 := Lib.hid (fun U => is_walk (knd s n2) (txt s n2) (plc s n2) ⟨#[42]⟩ U)
  have HI2 := Lib.hid (fun U => is_walk (knd s n2) (txt s n2) (plc s n2) ⟨#[47]⟩ U)
  rw [hm1] at HI1
  rw [hm2] at HI2
  clear hE hm1 hm2
  go_enter Tryz.func141, Tryz.ntmps141
  go_wp2_with fail
  refine HE.out.mono ?_
  rintro e w1 ⟨rfl, h1⟩
  obtain ⟨c2, c3, c4⟩ := h1.piece
  have H1 := Lib.hid h1
  clear h1
  go_wp2_with fail
  refine wp_loop_once ?_
  go_wp2_with fail
  refine (HI1.out _).mono ?_
  rintro e w2 ⟨rfl, h2⟩
  have H2 := Lib.hid (H1.out.below h2)
  obtain ⟨d2, d3, d4⟩ := H2.out.piece
  clear h2
  go_wp2_with fail
  refine (HI2.out _).mono ?_
  rintro e w3 ⟨rfl, h3⟩
  have H3 := Lib.hid (H2.out.below h3)
  clear h3
  go_wp2_with fail
  exact bodyPost_end (results_none (by rfl) _ _ _) (by rfl) ⟨rfl, H3.out⟩

set_option maxRecDepth 100000 in
set_option maxHeartbeats 2000000 in
theorem Em.expression_one {W : World} {g s n2 D L d h x} (hm1 : isM (knd s n2) (txt s n2) ⟨#[43]⟩ = false) (hm2 : isM (knd s n2) (txt s n2) ⟨#[45]⟩ = false)
    (hE : Calls Tryz.prog 141 #[.pointer (some ⟨g, 0, none⟩)] W fun e w' => e = .returned (.tuple #[]) ∧ Fu W w' g s n2 D L d h x) :
    Calls Tryz.prog 104 #[.pointer (some ⟨g, 0, none⟩)] W fun e w' => e = .returned (.tuple #[]) ∧ Fu W w' g s n2 D L d h x := by
  have HE := Lib.hid hE
  have HI1 := Lib.hid (fun U => is_walk (knd s n2) (txt s n2) (plc s n2) ⟨#[43]⟩ U)
  have HI2 := Lib.hid (fun U => is_walk (knd s n2) (txt s n2) (plc s n2) ⟨#[45]⟩ U)
  rw [hm1] at HI1
  rw [hm2] at HI2
  clear hE hm1 hm2
  go_enter Tryz.func104, Tryz.ntmps104
  go_wp2_with fail
  refine HE.out.mono ?_
  rintro e w1 ⟨rfl, h1⟩
  obtain ⟨c2, c3, c4⟩ := h1.piece
  have H1 := Lib.hid h1
  clear h1
  go_wp2_with fail
  refine wp_loop_once ?_
  go_wp2_with fail
  refine (HI1.out _).mono ?_
  rintro e w2 ⟨rfl, h2⟩
  have H2 := Lib.hid (H1.out.below h2)
  obtain ⟨d2, d3, d4⟩ := H2.out.piece
  clear h2
  go_wp2_with fail
  refine (HI2.out _).mono ?_
  rintro e w3 ⟨rfl, h3⟩
  have H3 := Lib.hid (H2.out.below h3)
  clear h3
  go_wp2_with fail
  exact bodyPost_end (results_none (by rfl) _ _ _) (by rfl) ⟨rfl, H3.out⟩

set_option maxRecDepth 100000 in
theorem word_abs {w : World} {g s n k t a D L d v h} (H : RdB w g s n k t a D L d v h) (ht : t = absC) (Q : Ending → World → Prop)
    (hF : Calls Tryz.prog 203 #[.pointer (some ⟨g, 0, none⟩), .int .i64 1] w fun e w' => e = .returned (.tuple #[]) ∧ Q (.returned (.tuple #[])) w') :
    Calls Tryz.prog 183 #[.pointer (some ⟨g, 0, none⟩)] w fun e w' => e = .returned (.tuple #[]) ∧ Q (.returned (.tuple #[])) w' := by
  obtain ⟨c2, c3, c4⟩ := H.piece
  rw [ht] at c3
  have HC := Lib.hid (fun W => constant_abs W)
  have HA := Lib.hid (fun W => arguments_abs W)
  have HF := Lib.hid hF
  clear H ht hF
  generalize absC = tn at *
  go_enter Tryz.func183, Tryz.ntmps183
  go_wp2_with fail
  refine (HC.out _).mono ?_
  rintro e w1 ⟨rfl, hw⟩
  (have h0 := hw.symm); subst h0
  clear hw
  go_wp2_with fail
  refine (HA.out _).mono ?_
  rintro e w1 ⟨rfl, hw⟩
  (have h0 := hw.symm); subst h0
  clear hw
  go_wp2_with fail
  refine HF.out.mono ?_
  rintro e w1 ⟨rfl, hq⟩
  have HQ := Lib.hid hq
  clear hq
  go_wp2_with fail
  exact bodyPost_ret (v := .tuple #[]) (results_none (by rfl) _ _ _) rfl ⟨rfl, HQ.out⟩
set_option maxRecDepth 100000 in
theorem word_abs_no {w : World} {g s n k t a D L d v h} {ch : List PanicEntry} (H : RdB w g s n k t a D L d v h) (ht : t = absC) (Q : World → Prop)
    (hF : Calls Tryz.prog 203 #[.pointer (some ⟨g, 0, none⟩), .int .i64 1] w fun e w' => e = .panicked ch ∧ Q w') :
    Calls Tryz.prog 183 #[.pointer (some ⟨g, 0, none⟩)] w fun e w' => e = .panicked ch ∧ Q w' := by
  obtain ⟨c2, c3, c4⟩ := H.piece
  rw [ht] at c3
  have HC := Lib.hid (fun W => constant_abs W)
  have HA := Lib.hid (fun W => arguments_abs W)
  have HF := Lib.hid hF
  clear H ht hF
  generalize absC = tn at *
  go_enter Tryz.func183, Tryz.ntmps183
  go_wp2_with fail
  refine (HC.out _).mono ?_
  rintro e w1 ⟨rfl, hw⟩
  (have h0 := hw.symm); subst h0
  clear hw
  go_wp2_with fail
  refine (HA.out _).mono ?_
  rintro e w1 ⟨rfl, hw⟩
  (have h0 := hw.symm); subst h0
  clear hw
  go_wp2_with fail
  refine HF.out.mono ?_
  rintro e w1 ⟨rfl, hq⟩
  have HQ := Lib.hid hq
  clear hq
  go_wp2_with fail
  exact ⟨rfl, rfl, HQ.out⟩
end Go.Proofs.YtibjogbalmbeeaaGreatDoor

namespace Go.Proofs.YtibjogbalmbeeaaGreatDoor
open Go.RowKit

def ONE : Nat := 4607182418800017408
theorem one_tok : tokOf ⟨#[49]⟩ = some (2, false, 1, 0) := by decide
theorem one_cell : loOk fmD ONE 1 0 ∧ hiOk fmD ONE 1 0 := of_decide_eq_true (by kernel_rfl)
theorem one_ten : ufF fmD 0 ≤ 2 * vP fmD ONE * ufG 0 ∧ 2 * vP fmD ONE * ufG (0 + 1) < ufF fmD (0 + 1) := of_decide_eq_true (by kernel_rfl)
theorem one_one : shD fmD ONE 0 = some 1 := of_decide_eq_true (by kernel_rfl)
theorem one_parse {v : Nat} {e : Int} (h : ParOk fmD ⟨#[49]⟩ v e) : v = ONE ∧ e = 0 := by
  unfold ParOk at h
  rw [if_neg (by decide), one_tok] at h
  obtain ⟨h1, he⟩ := h
  unfold TokP at h1
  rw [if_neg (by decide), if_neg (by decide)] at h1
  obtain ⟨p, hp, _, rfl⟩ := h1
  have e1 := hp.unique ((cell_pat (f := fmD) (z := ONE) (d := 1) (q := 0) (by decide) (by decide)).2 one_cell)
  exact ⟨e1, he⟩
theorem one_print {T : List UInt8} (h : PrOk fmD ONE T) : T = [49] := by
  unfold PrOk at h
  rw [show ONE % 2 ^ fmD.S = ONE from by decide] at h
  obtain ⟨_, _, _, h4⟩ := h
  obtain ⟨d, q, ⟨hs, _⟩, e⟩ := h4 (by decide) (by decide)
  obtain ⟨rfl, rfl⟩ := sh_one hs one_ten one_one
  rw [e, Lib.decDigits_one (by decide : 1 < 10)]
  decide
theorem mone_print {T : List UInt8} (h : PrOk fmD (9223372036854775808 + ONE) T) : T = [45, 49] := by
  unfold PrOk at h
  rw [show (9223372036854775808 + ONE) % 2 ^ fmD.S = ONE from by decide] at h
  obtain ⟨_, _, _, h4⟩ := h
  obtain ⟨d, q, ⟨hs, _⟩, e⟩ := h4 (by decide) (by decide)
  obtain ⟨rfl, rfl⟩ := sh_one hs one_ten one_one
  rw [e, Lib.decDigits_one (by decide : 1 < 10)]
  decide
theorem parse_one (W : World) (ht : Tab64 W) : Calls Tryz.prog 201 #[.int .i64 64, .string ⟨#[49]⟩] W fun e w' => e = .returned (.tuple #[.int .u64 (ONE : Int), .int .i64 0]) ∧ Below W.heap.size W w' := by
  refine (dparse_walk fmD (.inr rfl) ⟨#[49]⟩ W (by decide) ht).mono ?_
  rintro e w' ⟨v, k, rfl, hp, hb⟩
  obtain ⟨rfl, rfl⟩ := one_parse hp
  exact ⟨rfl, hb⟩

/-- A mark. -/
theorem mk_piece {T A R : List UInt8} {c : UInt8} {n : Nat} (hT : T = A ++ c :: R) (hn : n = A.length) (h1 : pLet c = false) (h2 : (pDig c || c == 46) = false) (h3 : pMrk c = true) :
    plc (bs T) n = n ∧ knd (bs T) n = 3 ∧ txt (bs T) n = ⟨#[c]⟩ ∧ nxt (bs T) n = n + 1 ∧ n + 1 ≤ (bs T).size := by
  subst hn
  have hl := len_at hT
  rw [List.length_cons] at hl
  have hc : cutK (bs T) A.length = (3, A.length + 1) := by
    unfold cutK
    rw [if_neg (by omega), by8_hd hT, h1, if_neg (by decide), h2, if_neg (by decide), h3, if_pos rfl]
  have h0 : ovr pBln (bs T) A.length = A.length := not_blank (by rw [hc]; show (3 : Nat) ≠ 4; decide)
  unfold plc knd txt nxt
  rw [h0, hc]
  refine ⟨rfl, rfl, ?_, rfl, by omega⟩
  unfold cutT
  rw [if_neg (by omega), hc]
  show (bs T).extract A.length (A.length + 1) = _
  rw [bs_ext, hT]
  simp [bs]
/-- The number 1. -/
theorem one_piece {T A R : List UInt8} {n : Nat} (hT : T = A ++ 49 :: R) (hn : n = A.length) (hR : R = [] ∨ ∃ t, R = 41 :: t) :
    plc (bs T) n = n ∧ knd (bs T) n = 2 ∧ txt (bs T) n = ⟨#[49]⟩ ∧ nxt (bs T) n = n + 1 ∧ n + 1 ≤ (bs T).size := by
  subst hn
  have hl := len_at hT
  rw [List.length_cons] at hl
  have hrun := ovr_run (p := pNum) (T := T) (A := A) (D := [49]) (R := R) (by rw [hT]; rfl) (by decide) (fun c t h => by
    rcases hR with e | ⟨t', e⟩
    · rw [e] at h; cases h
    · rw [e] at h; rw [← (List.cons.inj h).1]; rfl)
  have hp : pwr (bs T) (A.length + 1) 101 = A.length + 1 := by
    unfold pwr
    rw [if_neg]
    rintro ⟨a1, a2⟩
    rcases hR with e | ⟨t', e⟩
    · rw [e] at hl; simp at hl; omega
    · have := by8_hd (T := T) (A := A ++ [49]) (R := t') (c := 41) (by rw [hT, e]; simp)
      rw [List.length_append] at this
      exact absurd (this.symm.trans a2) (by decide)
  have hc : cutK (bs T) A.length = (2, A.length + 1) := by
    unfold cutK
    rw [if_neg (by omega), by8_hd hT, if_neg (by decide), if_pos (by decide)]
    unfold numE
    rw [if_neg (by rintro ⟨_, h, _⟩; rw [by8_hd hT] at h; exact absurd h (by decide)), hrun, List.length_singleton, hp]
  have h0 : ovr pBln (bs T) A.length = A.length := not_blank (by rw [hc]; show (2 : Nat) ≠ 4; decide)
  unfold plc knd txt nxt
  rw [h0, hc]
  refine ⟨rfl, rfl, ?_, rfl, by omega⟩
  unfold cutT
  rw [if_neg (by omega), hc]
  show (bs T).extract A.length (A.length + 1) = _
  rw [bs_ext, hT]
  simp [bs]
/-- The word abs ahead of a parenthesis. -/
theorem abs_piece {T A R : List UInt8} {n : Nat} (hT : T = A ++ 97 :: 98 :: 115 :: 40 :: R) (hn : n = A.length) :
    plc (bs T) n = n ∧ knd (bs T) n = 1 ∧ txt (bs T) n = absC ∧ nxt (bs T) n = n + 3 ∧ n + 4 ≤ (bs T).size := by
  subst hn
  have hl := len_at hT
  simp only [List.length_cons] at hl
  have hrun := ovr_run (p := pWrd) (T := T) (A := A) (D := [97, 98, 115]) (R := 40 :: R) (by rw [hT]; rfl) (by decide) (fun c t h => by rw [← (List.cons.inj h).1]; rfl)
  have hc : cutK (bs T) A.length = (1, A.length + 3) := by
    unfold cutK
    rw [if_neg (by omega), by8_hd hT, if_pos (by decide), hrun]; rfl
  have h0 : ovr pBln (bs T) A.length = A.length := not_blank (by rw [hc]; show (1 : Nat) ≠ 4; decide)
  unfold plc knd txt nxt
  rw [h0, hc]
  refine ⟨rfl, rfl, ?_, rfl, by omega⟩
  unfold cutT
  rw [if_neg (by omega), hc]
  show (bs T).extract A.length (A.length + 3) = _
  rw [bs_ext, hT]
  simp [bs, absC]
theorem rep_tail (j : Nat) (R : List UInt8) : List.replicate (j + 1) (41 : UInt8) ++ R = List.replicate j 41 ++ 41 :: R := by
  rw [List.replicate_succ', List.append_assoc]; rfl
theorem not_ops {s : ByteArray} {n : Nat} (h2 : txt s n = ⟨#[41]⟩) : isM (knd s n) (txt s n) ⟨#[42]⟩ = false ∧ isM (knd s n) (txt s n) ⟨#[47]⟩ = false ∧ isM (knd s n) (txt s n) ⟨#[43]⟩ = false ∧ isM (knd s n) (txt s n) ⟨#[45]⟩ = false ∧ isM (knd s n) (txt s n) ⟨#[44]⟩ = false := by
  rw [h2]
  unfold isM
  refine ⟨?_, ?_, ?_, ?_, ?_⟩ <;> rw [Bool.and_eq_false_iff] <;> exact .inr (by decide)
end Go.Proofs.YtibjogbalmbeeaaGreatDoor
