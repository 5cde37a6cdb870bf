/- Walks of calc: an expression that spells a pattern. · Walks of calc: the reader with an empty stack, and what an expression then leaves; push, pop where the stack lies from B on. · Walks of calc: a number where the stack is empty; abs: its word, its call. -/
import Derived.Test.YtibjogbalmbeeaaGreatDoorU23
import Derived.Test.YtibjogbalmbeeaaGreatDoorU26
import Derived.Test.YtibjogbalmbeeaaGreatDoorU32
import Derived.Test.YtibjogbalmbeeaaGreatDoorU24

namespace Go.Proofs.YtibjogbalmbeeaaGreatDoor
open Go.RowKit

/-- The piece behind A, to the text's end. -/
theorem piece_end {A U : List UInt8} {k : Nat} (h : cutK (bs (A ++ U)) A.length = (k, (bs (A ++ U)).size)) (hk : k ≠ 4) (hU : U ≠ []) :
    plc (bs (A ++ U)) A.length = A.length ∧ knd (bs (A ++ U)) A.length = k ∧ txt (bs (A ++ U)) A.length = bs U ∧ nxt (bs (A ++ U)) A.length = (bs (A ++ U)).size := by
  have h0 : ovr pBln (bs (A ++ U)) A.length = A.length := not_blank (by rw [h]; exact hk)
  have hl : 1 ≤ U.length := by cases U with | nil => exact absurd rfl hU | cons => simp
  unfold plc knd txt nxt
  rw [h0, h]
  refine ⟨rfl, rfl, ?_, rfl⟩
  unfold cutT
  rw [if_neg (by rw [bs_size, List.length_append]; omega), h]
  show (bs (A ++ U)).extract A.length (bs (A ++ U)).size = bs U
  rw [bs_ext, List.drop_append, bs_size, List.length_append]
  simp
/-- A word to the text's end. -/
theorem word_cut {A U : List UInt8} {c : UInt8} {t : List UInt8} (hU : U = c :: t) (hc : pLet c = true) (ht : ∀ x ∈ U, pWrd x = true) : cutK (bs (A ++ U)) A.length = (1, (bs (A ++ U)).size) := by
  have h0 := by8_hd (T := A ++ U) (A := A) (R := t) (c := c) (by rw [hU])
  have hr := ovr_run (p := pWrd) (T := A ++ U) (A := A) (D := U) (R := []) (by simp) ht (fun c t h => by cases h)
  unfold cutK
  rw [if_neg (by rw [bs_size, hU]; simp), h0, hc, if_pos rfl, hr, bs_size, List.length_append]
theorem end_piece (s : ByteArray) : knd s s.size = 0 := by
  unfold knd
  rw [ovr_stop (fun h => absurd h (by omega))]
  unfold cutK
  rw [if_pos (Nat.le_refl _)]
theorem end_isM (s : ByteArray) (t m : ByteArray) : isM (knd s s.size) t m = false := by rw [end_piece]; rfl
/-- The tables are there in a state too. -/
theorem St.tab {w W : World} {g s n D L d h l} (H : St w W g s n D L d h l) (hg : w.heap.size = g) (ht : Tab64 w) : Tab64 W := ht.below (by rw [hg]; exact H.1)

theorem reads_U {w W : World} {g : Nat} {A U : List UInt8} {z : Nat} {D L d h l} (hU : SpU z U) (H : St w W g (bs (A ++ U)) A.length D L d h l) (hsz : (A ++ U).length ≤ 1000) (hl : l.length < 1000) (hg : w.heap.size = g) (ht : Tab64 w) :
    Calls Tryz.prog 164 #[.pointer (some ⟨g, 0, none⟩)] W fun e w' => e = .returned (.tuple #[]) ∧ St w w' g (bs (A ++ U)) (bs (A ++ U)).size D L d h (l ++ [z]) := by
  have hn : A.length ≤ (bs (A ++ U)).size := by rw [bs_size, List.length_append]; omega
  have hs : (bs (A ++ U)).size ≤ 100000 := by rw [bs_size]; omega
  rcases hU with ⟨rfl, rfl⟩ | ⟨dec, ⟨hc, hx, hne⟩, hP⟩
  · obtain ⟨p1, p2, p3, p4⟩ := piece_end (A := A) (U := [105, 110, 102]) (word_cut rfl (by decide) (by decide)) (by decide) (by decide)
    have := H.const p2 hn hs (by omega) 9218868437227405312 (by rw [p3]; exact fun U => constant_inf U)
    rw [p4] at this
    exact this
  · obtain ⟨p1, p2, p3, p4⟩ := piece_end (hc A) (by decide) hne
    have := H.number p2 hn hs (by omega) z dec (by rw [p3, bs_dl]; exact hx) (fun V hV => by rw [p3]; exact hP V ((H.tab hg ht).below hV))
    rw [p4] at this
    exact this
theorem minus_piece (U : List UInt8) : knd (bs (45 :: U)) 0 = 3 ∧ txt (bs (45 :: U)) 0 = ⟨#[45]⟩ ∧ nxt (bs (45 :: U)) 0 = 1 ∧ plc (bs (45 :: U)) 0 = 0 := by
  have h0 : by8 (bs (45 :: U)) 0 = 45 := rfl
  have h1 : cutK (bs (45 :: U)) 0 = (3, 1) := by
    unfold cutK
    rw [if_neg (by rw [bs_size]; simp), h0]
    rfl
  have h2 : ovr pBln (bs (45 :: U)) 0 = 0 := not_blank (by rw [h1]; decide)
  unfold knd txt nxt plc
  rw [h2, h1]
  refine ⟨rfl, ?_, rfl, rfl⟩
  unfold cutT
  rw [if_neg (by rw [bs_size]; simp), h1]
  show (bs (45 :: U)).extract 0 1 = _
  rw [bs_ext]
  rfl
theorem St.shut {w W : World} {g s D L d h l l2} (H : St w W g s 0 D L d h l)
    (hF : ∀ U, St w U g s 0 D L d h l → Calls Tryz.prog 164 #[.pointer (some ⟨g, 0, none⟩)] U fun e w' => e = .returned (.tuple #[]) ∧ St w w' g s s.size D L d h l2) :
    Calls Tryz.prog 104 #[.pointer (some ⟨g, 0, none⟩)] W fun e w' => e = .returned (.tuple #[]) ∧ St w w' g s s.size D L d h l2 :=
  H.expression_one (end_isM _ _ _) (end_isM _ _ _) fun _ hU => hU.term_one (end_isM _ _ _) (end_isM _ _ _) hF
/-- An expression that spells a pattern: what it is read as lies on the stack, the line is at its end. -/
theorem reads {w W : World} {g : Nat} {T : List UInt8} {b : Nat} {D L d h l} (hT : SpT b T) (hb : b < 18446744073709551616) (H : St w W g (bs T) 0 D L d h l) (hd : d < 50) (hl : l.length < 900) (hg : w.heap.size = g) (ht : Tab64 w) :
    Calls Tryz.prog 104 #[.pointer (some ⟨g, 0, none⟩)] W fun e w' => e = .returned (.tuple #[]) ∧ St w w' g (bs T) (bs T).size D L d h (l ++ [wantD b]) := by
  refine H.shut fun U hU => ?_
  obtain ⟨hlen, ⟨hn, rfl⟩ | ⟨hn, V, rfl, hV⟩⟩ := hT
  · have hpe := piece_end (A := []) (U := [110, 97, 110]) (word_cut rfl (by decide) (by decide)) (by decide) (by decide)
    simp only [List.nil_append, List.length_nil] at hpe
    obtain ⟨p1, p2, p3, p4⟩ := hpe
    have hw : wantD b = 9221120237041090561 := by unfold wantD; rw [if_pos hn]
    have := hU.const p2 (Nat.zero_le _) (by rw [bs_size]; decide) (by omega) 9221120237041090561 (by rw [p3]; exact fun U => constant_nan U)
    rw [p4] at this
    rw [hw]
    exact this
  · have hw : wantD b = b := by unfold wantD; rw [if_neg (by omega)]
    rw [hw]
    by_cases c : 9223372036854775808 ≤ b
    · rw [if_pos c] at hU hlen ⊢
      obtain ⟨m1, m2, m3, m4⟩ := minus_piece V
      have hlen' : ([45] ++ V).length ≤ 300 := hlen
      have hs : (bs (45 :: V)).size ≤ 100000 := by rw [bs_size]; simp at hlen' ⊢; omega
      have hb2 : b = 9223372036854775808 + b % 9223372036854775808 := by omega
      have hz : b % 9223372036854775808 ≤ 9218868437227405312 := by omega
      generalize b % 9223372036854775808 = z at *
      subst hb2
      refine St.minus (s := bs (45 :: V)) (x := z) (y := 9223372036854775808 + z) (z := 0) (n2 := (bs (45 :: V)).size) hU (by rw [m1, m2]; decide) (Nat.zero_le _) hs hd (by omega) (fun W1 h1 => ?_) (fun W1 h1 => neg_D z hz W1 (h1.tab hg ht))
      rw [m3] at h1
      exact reads_U (A := [45]) (U := V) hV h1 (by omega) (by omega) hg ht
    · rw [if_neg c] at hU hlen ⊢
      have hz : b % 9223372036854775808 = b := by omega
      rw [hz] at hV
      exact reads_U (A := []) (U := V) hV hU (by rw [List.nil_append] at hlen ⊢; omega) (by omega) hg ht
end Go.Proofs.YtibjogbalmbeeaaGreatDoor

namespace Go.Proofs.YtibjogbalmbeeaaGreatDoor
open Go.RowKit

/-- Of the blocks below B only block g may differ. -/
def Kp (B g : Nat) (w w' : World) : Prop := w'.os = w.os ∧ w'.tape = w.tape ∧ w'.output = w.output ∧ w.heap.size ≤ w'.heap.size ∧ ∀ i, i < B → i ≠ g → w'.heap[i]? = w.heap[i]?
theorem Kp.of {B g : Nat} {w w' : World} (h : Below B w w') : Kp B g w w' := ⟨h.os, h.tape, h.output, h.size, fun i hi _ => h.block i hi⟩
theorem Kp.set {B g : Nat} {w w' : World} (h : Kp B g w w') (j : Nat) (u : Value) : Kp B g w (w'.setCell ⟨g, j, none⟩ u) :=
  ⟨h.1, h.2.1, h.2.2.1, by have := h.2.2.2.1; simpa using this, fun i hi hg => (Below.heap_setCell w' ⟨g, j, none⟩ u i hg).trans (h.2.2.2.2 i hi hg)⟩
theorem Kp.dn {B g : Nat} {w w' : World} (h : Kp B g w w') (n : Nat) : Kp B g w (w'.drewN n) := h
theorem Kp.trans {B g : Nat} {w w1 w2 : World} (h : Kp B g w w1) (k : Kp B g w1 w2) : Kp B g w w2 :=
  ⟨k.1.trans h.1, k.2.1.trans h.2.1, k.2.2.1.trans h.2.2.1, Nat.le_trans h.2.2.2.1 k.2.2.2.1, fun i hi hg => (k.2.2.2.2 i hi hg).trans (h.2.2.2.2 i hi hg)⟩
theorem Kp.low {B g : Nat} {w w' : World} (h : Kp B g w w') (hg : g ≤ B) : Below g w w' := ⟨h.1, h.2.1, h.2.2.1, h.2.2.2.1, fun i hi => h.2.2.2.2 i (by omega) (by omega)⟩
theorem Kp.grb {g : Nat} {U w' : World} (h : Kp U.heap.size g U w') : U.grownBy w' (some g) := ⟨h.1, h.2.1, h.2.2.1, h.2.2.2.1, fun i hi hg => h.2.2.2.2 i hi (fun e => hg (by rw [e]))⟩
theorem Kp.of_grb {B g : Nat} {w w' : World} (h : w.grownBy w' (some g)) (hB : B ≤ w.heap.size) : Kp B g w w' := ⟨h.os, h.tape, h.output, h.size, fun i hi hg => h.block i (by omega) (fun e => hg (by injection e))⟩

set_option maxRecDepth 100000 in
set_option maxHeartbeats 2000000 in
theorem push_walkB {w : World} {g : Nat} {s n k t a D L d v h} {l : List Nat} (H : RdB w g s n k t a D L d v h) {B : Nat} (HO : OwV w B v l) (hgB : g < B) (hBw : B ≤ w.heap.size) (x : Nat) (hl : l.length < 100000) :
    Calls Tryz.prog 167 #[.pointer (some ⟨g, 8, none⟩), .int .u64 (x : Int)] w fun e w' => e = .returned (.tuple #[]) ∧ ∃ v', RdB w' g s n k t a D L d v' h ∧ OwV w' B v' (l ++ [x]) ∧ Kp B g w w' := by
  have c8 : w.cell? ⟨g, 8, none⟩ = some v := H.cell 8
  have f8 := H.frozen 8
  have hlt : g < w.heap.size := H.lt
  have hb := below_alloc' w (.cells #[.int .u64 (x : Int)] 23)
  have HB := Lib.hid hb
  have HgB := Lib.hid hgB
  have HBw := Lib.hid hBw
  have HH := Lib.hid H
  have HV := Lib.hid HO
  have HL := Lib.hid hl
  have HLt := Lib.hid hlt
  clear hb H HO hl hlt hgB hBw
  go_enter Tryz.func167, Tryz.ntmps167
  go_wp2_with (at_builtin; go_loud (refine wpList_appendV rfl (.tmp 8) (.tmp 10) rfl B _ l rfl (HV.out.alloc _) ⟨w.heap.size, 0, none⟩ 1 1 [x] rfl rfl (new_cellV w x) (by have := HL.out; omega) (by have := HBw.out; simp; omega) (fun v' w1 h1 h2 => ?_); obtain ⟨A', c', hv⟩ := h1.shape; rw [List.length_append, List.length_singleton] at hv; subst hv; have hb2 : Below B w w1 := h2 w (HB.out.mono (by have := HBw.out; omega)); have hR : RdB w1 g s n k t a D L d v h := (hb2.block g (by have := HgB.out; omega)).trans HH.out; have x8 : w1.cell? ⟨g, 8, none⟩ = some v := hR.cell 8; have y8 := hR.frozen 8; have HR := Lib.hid hR; have H1 := Lib.hid h1; have HB2 := Lib.hid hb2; clear hR h1 hb2 h2 c8 f8))
  refine bodyPost_end (results_none (by rfl) _ _ _) (by rfl) ⟨rfl, _, HR.out.setVals _, H1.out.far (p := ⟨g, 8, none⟩) HgB.out _, (Kp.of HB2.out).set 8 _⟩
set_option maxRecDepth 100000 in
set_option maxHeartbeats 2000000 in
theorem pop_walkB {w : World} {g : Nat} {s n k t a D L d v h} {l : List Nat} {x : Nat} (H : RdB w g s n k t a D L d v h) {B : Nat} (HO : OwV w B v (l ++ [x])) (hgB : g < B) (hl : l.length < 100000) :
    Calls Tryz.prog 105 #[.pointer (some ⟨g, 8, none⟩)] w fun e w' => e = .returned (.int .u64 (x : Int)) ∧ ∃ v', RdB w' g s n k t a D L d v' h ∧ OwV w' B v' l ∧ ∀ B', Kp B' g w w' := by
  obtain ⟨q, cap, rfl, hcap⟩ := HO.full
  have hx := HO.last
  have HF := Lib.hid HO.front
  have c8 : w.cell? ⟨g, 8, none⟩ = some (.slice (some ⟨q, 0, none⟩) (l.length + 1) cap) := H.cell 8
  have f8 := H.frozen 8
  have HH := Lib.hid H
  have HgB := Lib.hid hgB
  obtain ⟨m, hm⟩ : ∃ m, l.length = m := ⟨_, rfl⟩
  rw [hm] at hl hx c8 HF hcap
  have HM := Lib.hid hm
  have hsl : ∀ W : World, (Instr.slice 67 (.slice (some ⟨q, 0, none⟩) (m + 1) cap) none (some (.int .i64 (m : Int))) none).run Tryz.prog W = .ok (.slice (some ⟨q, 0, none⟩) m cap) W := fun W => by
    have h1 : Tryz.prog.underlying 67 = some (.slice (Tryz.prog.elem 67)) := by kernel_rfl
    have h2 : (sizeOf (Tryz.prog.elem 67)).run Tryz.prog W = .ok 1 W := by kernel_rfl
    rw [run_slice_h W _ _ _ _ h1 .i64 (m : Int) (by omega) (by omega), h2]
    simp [Result.andThen, sliced, Addr.add]
  have kw : IntKind.i64.wrap (((m + 1 : Nat) : Int) - 1) = (m : Int) := by rw [IntKind.wrap_i64]; omega
  obtain ⟨n1, hn1⟩ : ∃ n1, m + 1 = n1 := ⟨_, rfl⟩
  rw [hn1] at hsl kw c8
  have g1 : (0 : Int) ≤ (m : Int) := by omega
  have g2 : (m : Int) < (n1 : Int) := by omega
  have g3 : m < n1 := by omega
  clear H HO hm hl hn1 hcap hgB
  go_enter Tryz.func105, Tryz.ntmps105
  go_wp2_with fail
  go_region_with (fail)
  all_goals
    go_wp2_with fail
    go_region_with (fail)
    all_goals
      go_wp2_with fail
      refine bodyPost_ret (v := .int .u64 (x : Int)) (by simp [results, Tryz.results105, go_sem]) rfl ⟨rfl, _, RdB.dn (RdB.setVals HH.out _) 2, HF.out.far (p := ⟨g, 8, none⟩) HgB.out _, fun B' => (Kp.dn ((Kp.of (Below.refl B' w)).set 8 _) 2)⟩

/-- The reader at g holds the piece that was cut at n; its stack is empty. -/
def Em (U : World) (g : Nat) (s : ByteArray) (n : Nat) (D L : Value) (d : Nat) (h : Int) : Prop := RdB U g s (nxt s n) (knd s n) (txt s n) (plc s n) D L d (.slice none 0 0) h
/-- What an expression leaves, from U on: the piece at n in hand, one word on the stack. -/
def Fu (U w' : World) (g : Nat) (s : ByteArray) (n : Nat) (D L : Value) (d : Nat) (h : Int) (x : Nat) : Prop :=
  U.grownBy w' (some g) ∧ ∃ v, RdB w' g s (nxt s n) (knd s n) (txt s n) (plc s n) D L d v h ∧ OwV w' U.heap.size v [x]
theorem Em.below {U W : World} {g s n D L d h} (H : Em U g s n D L d h) (hb : Below U.heap.size U W) : Em W g s n D L d h := RdB.below H hb
theorem Em.step {U : World} {g s n D L d h} (H : Em U g s n D L d h) (hn : n ≤ s.size) (hs : s.size ≤ 100000) :
    Calls Tryz.prog 26 #[.pointer (some ⟨g, 0, none⟩)] U fun e w' => e = .returned (.tuple #[]) ∧ Em w' g s (nxt s n) D L d h ∧ U.grownBy w' (some g) := by
  refine (step_walk H (nxt_le hn) hs).mono ?_
  rintro e w' ⟨rfl, h1, h2⟩
  exact ⟨rfl, h1, h2⟩
theorem Em.deeper {U : World} {g s n D L d h} (H : Em U g s n D L d h) (hd : d < 50) :
    Calls Tryz.prog 179 #[.pointer (some ⟨g, 0, none⟩)] U fun e w' => e = .returned (.tuple #[]) ∧ Em w' g s n D L (d + 1) h ∧ U.grownBy w' (some g) := by
  refine (deeper_walk H hd).mono ?_
  rintro e w' ⟨rfl, rfl⟩
  exact ⟨rfl, H.setDepth _, grb_set (grb_of g (Below.refl _ _)) 7 _⟩
theorem Fu.below {U W W' : World} {g s n D L d h x} (H : Fu U W g s n D L d h x) (hb : Below W.heap.size W W') : Fu U W' g s n D L d h x := by
  obtain ⟨h0, v, hr, ho⟩ := H
  exact ⟨grb_trans h0 (grb_of g hb), v, hr.below hb, ho.below hb⟩
theorem Fu.step {U W : World} {g s n D L d h x} (H : Fu U W g s n D L d h x) (hg : g < U.heap.size) (hn : n ≤ s.size) (hs : s.size ≤ 100000) :
    Calls Tryz.prog 26 #[.pointer (some ⟨g, 0, none⟩)] W fun e w' => e = .returned (.tuple #[]) ∧ Fu U w' g s (nxt s n) D L d h x := by
  obtain ⟨h0, v, hr, ho⟩ := H
  refine (step_walk hr (nxt_le hn) hs).mono ?_
  rintro e w' ⟨rfl, h1, h2⟩
  refine ⟨rfl, grb_trans h0 h2, v, h1, World.ownsRow.kept ho h2 (.inr fun e => ?_)⟩
  have := ho.block _ e
  omega
theorem Fu.piece {U W : World} {g s n D L d h x} (H : Fu U W g s n D L d h x) :
    W.cell? ⟨g, 2, none⟩ = some (.int .i64 (knd s n : Int)) ∧ W.cell? ⟨g, 3, none⟩ = some (.string (txt s n)) ∧ W.cell? ⟨g, 4, none⟩ = some (.int .i64 (plc s n : Int)) := by
  obtain ⟨_, v, hr, _⟩ := H; exact hr.piece
theorem Fu.depth {U W : World} {g s n D L d h x} (H : Fu U W g s n D L d h x) : W.cell? ⟨g, 7, none⟩ = some (.int .i64 (d : Int)) ∧ W.frozen? ⟨g, 7, none⟩ = false := by
  obtain ⟨_, v, hr, _⟩ := H; exact ⟨hr.cell 7, hr.frozen 7⟩
theorem Fu.setDepth {U W : World} {g s n D L d h x} (H : Fu U W g s n D L d h x) (hg : g < U.heap.size) (d' : Nat) : Fu U (W.setCell ⟨g, 7, none⟩ (.int .i64 (d' : Int))) g s n D L d' h x := by
  obtain ⟨h0, v, hr, ho⟩ := H
  exact ⟨grb_set h0 7 _, v, hr.setDepth _, ho.far (p := ⟨g, 7, none⟩) hg _⟩
/-- A number where the stack is empty. -/
theorem Fu.restart {U U' W : World} {g s n D L d h x} (H : Fu U' W g s n D L d h x) (hU : U.grownBy U' (some g)) : Fu U W g s n D L d h x := by
  obtain ⟨h0, v, hr, ho⟩ := H
  refine ⟨grb_trans hU h0, v, hr, ?_⟩
  rcases ho.2 with h2 | ⟨q, cap, cur, e1, h3, rest⟩
  · exact ⟨ho.1, .inl h2⟩
  · exact ⟨ho.1, .inr ⟨q, cap, cur, e1, Nat.le_trans hU.size h3, rest⟩⟩
end Go.Proofs.YtibjogbalmbeeaaGreatDoor

namespace Go.Proofs.YtibjogbalmbeeaaGreatDoor
open Go.RowKit

set_option maxRecDepth 100000 in
set_option maxHeartbeats 2000000 in
theorem literal_B {w : World} {g : Nat} {s n k t a D L d h} {B : Nat} (H : RdB w g s n k t a D L d (.slice none 0 0) h) (hgB : g < B) (hBw : B ≤ w.heap.size) (hn : n ≤ s.size) (hs : s.size ≤ 100000)
    (hx : Lib.hasPrefix t.data.toList [48, 120] = false) (V : Nat)
    (hP : ∀ W, Below w.heap.size w W → Calls Tryz.prog 201 #[.int .i64 64, .string t] W fun e w' => e = .returned (.tuple #[.int .u64 (V : Int), .int .i64 0]) ∧ Below W.heap.size W w') :
    Calls Tryz.prog 182 #[.pointer (some ⟨g, 0, none⟩)] w fun e w' => e = .returned (.tuple #[]) ∧ (∃ v', RdB w' g s (cutK s (ovr pBln s n)).2 (cutK s (ovr pBln s n)).1 (cutT s (ovr pBln s n)) (ovr pBln s n) D L d v' h ∧ OwV w' B v' [V]) ∧ Kp B g w w' := by
  have c3 : w.cell? ⟨g, 3, none⟩ = some (.string t) := H.cell 3
  have hlt := H.lt
  have HPf := Lib.hid (fun W => Tryz.strings_HasPrefix t ⟨#[48, 120]⟩ W)
  have HP := Lib.hid hP
  have HU := Lib.hid (fun (W : World) (hb : Below w.heap.size w W) => push_walkB (w := W) (H.below hb) (OwV.nil W B) hgB (Nat.le_trans hBw hb.size) V (by simp))
  have HS := Lib.hid (fun (W : World) (v' : Value) (hb : RdB W g s n k t a D L d v' h) => step_walk hb hn hs)
  have HLt := Lib.hid hlt
  have HgB := Lib.hid hgB
  have HBw := Lib.hid hBw
  rw [show Lib.hasPrefix t.data.toList (⟨#[48, 120]⟩ : ByteArray).data.toList = false from hx] at HPf
  clear H hn hs hx hP hlt hgB hBw
  generalize (cutK s (ovr pBln s n)).2 = n' at *
  generalize (cutK s (ovr pBln s n)).1 = k' at *
  generalize cutT s (ovr pBln s n) = t' at *
  generalize ovr pBln s n = b at *
  go_enter Tryz.func182, Tryz.ntmps182
  go_wp2_with fail
  refine (HPf.out _).mono ?_
  rintro e w1 ⟨rfl, hw⟩
  (have h0 := hw.symm); subst h0
  clear hw
  go_wp2_with fail
  refine (HP.out _ (Below.refl _ _)).mono ?_
  rintro e w1 ⟨rfl, hb⟩
  have HB := Lib.hid hb
  have HU1 := Lib.hid (HU.out w1 hb)
  clear hb
  go_wp2_with fail
  refine HU1.out.mono ?_
  rintro e w2 ⟨rfl, v', hr, ho, hb2⟩
  have HS2 := Lib.hid (HS.out w2 v' hr)
  have HO := Lib.hid ho
  have HL2 := Lib.hid hr.lt
  have HB2 := Lib.hid hb2
  clear hr ho hb2
  go_wp2_with fail
  refine HS2.out.mono ?_
  rintro e w3 ⟨rfl, hr, hb3⟩
  have HR := Lib.hid hr
  have HO3 := Lib.hid hb3
  clear hr hb3
  go_wp2_with fail
  exact bodyPost_end (results_none (by rfl) _ _ _) (by rfl) ⟨rfl, ⟨v', HR.out, World.ownsRow.kept HO.out HO3.out (.inr fun e => by have := HO.out.block _ e; have := HgB.out; omega)⟩, ((Kp.of (HB.out.mono HBw.out)).trans HB2.out).trans (Kp.of_grb HO3.out (by have := HBw.out; have := HB.out.size; have := HB2.out.2.2.2.1; omega))⟩


/-- A factor that is a number, where the stack is empty. -/
theorem Em.number {U : World} {g s n D L d h} (H : Em U g s n D L d h) (hk : knd s n = 2) (hn : n ≤ s.size) (hs : s.size ≤ 100000) (V : Nat) (hx : Lib.hasPrefix (txt s n).data.toList [48, 120] = false)
    (hP : ∀ W, Below U.heap.size U W → Calls Tryz.prog 201 #[.int .i64 64, .string (txt s n)] W fun e w' => e = .returned (.tuple #[.int .u64 (V : Int), .int .i64 0]) ∧ Below W.heap.size W w') :
    Calls Tryz.prog 164 #[.pointer (some ⟨g, 0, none⟩)] U fun e w' => e = .returned (.tuple #[]) ∧ Fu U w' g s (nxt s n) D L d h V := by
  refine factor_num H hk (fun w' => Fu U w' g s (nxt s n) D L d h V) fun W hW => ?_
  refine (literal_B (B := U.heap.size) (RdB.below H hW) (RdB.lt H) hW.size (nxt_le hn) hs hx V (fun W2 h2 => hP W2 (below_chain hW h2))).mono ?_
  rintro e w' ⟨rfl, ⟨v', h1, h2⟩, h3⟩
  exact ⟨rfl, ((Kp.of hW).trans h3).grb, v', h1, h2⟩

def absC : ByteArray := ⟨#[97, 98, 115]⟩
set_option maxRecDepth 100000 in
theorem constant_abs (W : World) : Calls Tryz.prog 102 #[.string absC] W fun e w' => e = .returned (.tuple #[.int .u64 0, .bool false]) ∧ w' = W := by
  have f0 : (absC.toList == [112, 105]) = false := ne_str (s := absC) (t := ⟨#[112, 105]⟩) (by decide)
  have f1 : (absC.toList == [105, 110, 102]) = false := ne_str (s := absC) (t := ⟨#[105, 110, 102]⟩) (by decide)
  have f2 : (absC.toList == [110, 97, 110]) = false := ne_str (s := absC) (t := ⟨#[110, 97, 110]⟩) (by decide)
  generalize absC = t at *
  go_enter Tryz.func102, Tryz.ntmps102
  go_wp2_with fail
  exact bodyPost_ret (v := .tuple #[.int .u64 0, .bool false]) (by simp [results, Tryz.results102, go_sem]) rfl ⟨rfl, rfl⟩
set_option maxRecDepth 100000 in
theorem arguments_abs (W : World) : Calls Tryz.prog 103 #[.string absC] W fun e w' => e = .returned (.int .i64 1) ∧ w' = W := by
  have f0 : (absC.toList == [115, 105, 110]) = false := ne_str (s := absC) (t := ⟨#[115, 105, 110]⟩) (by decide)
  have f1 : (absC.toList == [99, 111, 115]) = false := ne_str (s := absC) (t := ⟨#[99, 111, 115]⟩) (by decide)
  have f2 : (absC.toList == [116, 97, 110]) = false := ne_str (s := absC) (t := ⟨#[116, 97, 110]⟩) (by decide)
  have f3 : (absC.toList == [115, 105, 110, 112, 105]) = false := ne_str (s := absC) (t := ⟨#[115, 105, 110, 112, 105]⟩) (by decide)
  have f4 : (absC.toList == [99, 111, 115, 112, 105]) = false := ne_str (s := absC) (t := ⟨#[99, 111, 115, 112, 105]⟩) (by decide)
  have f5 : (absC.toList == [116, 97, 110, 112, 105]) = false := ne_str (s := absC) (t := ⟨#[116, 97, 110, 112, 105]⟩) (by decide)
  have f6 : (absC.toList == [115, 113, 114, 116]) = false := ne_str (s := absC) (t := ⟨#[115, 113, 114, 116]⟩) (by decide)
  have f7 : (absC.toList == [97, 98, 115]) = true := eq_str absC
  generalize absC = t at *
  go_enter Tryz.func103, Tryz.ntmps103
  go_wp2_with fail
  exact bodyPost_ret (v := .int .i64 1) (by simp [results, Tryz.results103, go_sem]) rfl ⟨rfl, rfl⟩
set_option maxRecDepth 100000 in
theorem command_abs (W : World) : Calls Tryz.prog 52 #[.string absC] W fun e w' => e = .returned (.bool false) ∧ w' = W := by
  have f0 : (absC.toList == [100, 114, 111, 112]) = false := ne_str (s := absC) (t := ⟨#[100, 114, 111, 112]⟩) (by decide)
  have f1 : (absC.toList == [99, 108, 101, 97, 114]) = false := ne_str (s := absC) (t := ⟨#[99, 108, 101, 97, 114]⟩) (by decide)
  have f2 : (absC.toList == [110, 97, 109, 101, 115]) = false := ne_str (s := absC) (t := ⟨#[110, 97, 109, 101, 115]⟩) (by decide)
  have f3 : (absC.toList == [104, 101, 120]) = false := ne_str (s := absC) (t := ⟨#[104, 101, 120]⟩) (by decide)
  have f4 : (absC.toList == [100, 101, 99]) = false := ne_str (s := absC) (t := ⟨#[100, 101, 99]⟩) (by decide)
  have f5 : (absC.toList == [102, 97, 115, 116]) = false := ne_str (s := absC) (t := ⟨#[102, 97, 115, 116]⟩) (by decide)
  have f6 : (absC.toList == [115, 108, 111, 119]) = false := ne_str (s := absC) (t := ⟨#[115, 108, 111, 119]⟩) (by decide)
  generalize absC = t at *
  go_enter Tryz.func52, Tryz.ntmps52
  go_wp2_with fail
  exact bodyPost_ret (v := .bool false) (by simp [results, Tryz.results52, go_sem]) rfl ⟨rfl, rfl⟩
set_option maxRecDepth 100000 in
set_option maxHeartbeats 1000000 in
theorem named_abs (a : Nat) (W : World) :
    Calls Tryz.prog 55 #[.agg #[.int .i64 1, .string absC, .int .i64 (a : Int)]] W fun e w' => e = .returned (.bool false) ∧ Below W.heap.size W w' := by
  have HC := Lib.hid (fun W => constant_abs W)
  have HM := Lib.hid (fun W => command_abs W)
  have HA := Lib.hid (fun W => arguments_abs W)
  have g1 : ¬ (16 : Int) < (absC.size : Int) := by decide
  generalize absC = t at *
  have hb := below_alloc' W (.cells #[.int .i64 1, .string t, .int .i64 (a : Int)] 66)
  go_enter Tryz.func55, Tryz.ntmps55
  go_wp2_with fail
  refine (HC.out _).mono ?_
  rintro e w1 ⟨rfl, hw⟩
  (have h0 := hw.symm); subst h0
  clear hw
  go_wp2_with fail
  refine (HM.out _).mono ?_
  rintro e w1 ⟨rfl, hw⟩
  (have h0 := hw.symm); subst h0
  clear hw
  go_wp2_with fail
  refine (HA.out _).mono ?_
  rintro e w1 ⟨rfl, hw⟩
  (have h0 := hw.symm); subst h0
  clear hw
  go_wp2_with fail
  exact bodyPost_ret (v := .bool false) (by simp [results, Tryz.results55, go_sem]) rfl ⟨rfl, hb⟩

set_option maxRecDepth 100000 in
set_option maxHeartbeats 2000000 in
theorem call_abs {w : World} {g : Nat} {s n k t a D L d v h} {B x y : Nat} (a0 : Nat) (H : RdB w g s n k t a D L d v h) (HO : OwV w B v [x]) (hgB : g < B) (hBw : B ≤ w.heap.size)
    (hA : ∀ W, Below g w W → Calls Tryz.prog 245 #[.int .i64 64, .int .u64 (x : Int)] W fun e w' => e = .returned (.tuple #[.int .u64 (y : Int), .int .i64 0]) ∧ Below W.heap.size W w') :
    Calls Tryz.prog 225 #[.pointer (some ⟨g, 0, none⟩), .agg #[.int .i64 1, .string absC, .int .i64 (a0 : Int)]] w fun e w' => e = .returned (.tuple #[]) ∧ ∃ v', RdB w' g s n k t a D L d v' h ∧ OwV w' B v' [y] ∧ Kp B g w w' := by
  have f0 : (absC.toList == [102, 109, 97]) = false := ne_str (s := absC) (t := ⟨#[102, 109, 97]⟩) (by decide)
  have f1 : (absC.toList == [115, 113, 114, 116]) = false := ne_str (s := absC) (t := ⟨#[115, 113, 114, 116]⟩) (by decide)
  have f2 : (absC.toList == [97, 98, 115]) = true := eq_str absC
  generalize absC = tn at *
  have hbx := below_alloc' w (.cells #[.int .i64 1, .string tn, .int .i64 (a0 : Int)] 66)
  have HBx := Lib.hid (show Box3 (w.alloc (.cells #[.int .i64 1, .string tn, .int .i64 (a0 : Int)] 66)) w.heap.size (.int .i64 1) (.string tn) (.int .i64 (a0 : Int)) from ⟨by simp, by simp, by simp, by simp, by simp, by simp, by simp⟩)
  have HP := Lib.hid (pop_walkB (l := []) (H.below hbx) (show OwV _ B v ([] ++ [x]) from HO.below hbx) hgB (by simp))
  have HA := Lib.hid hA
  have HgB := Lib.hid hgB
  have HBw := Lib.hid hBw
  have HK0 := Lib.hid (Kp.of (g := g) (hbx.mono hBw))
  have HLt := Lib.hid H.lt
  obtain ⟨xi, hxi⟩ : ∃ xi : Int, (x : Int) = xi := ⟨_, rfl⟩
  rw [hxi] at HP HA
  clear H HO hgB hBw hA hbx hxi
  go_enter Tryz.func225, Tryz.ntmps225
  go_wp2_with fail
  refine HP.out.mono ?_
  rintro e w1 ⟨rfl, v1, h1, h2, h3⟩
  have HB1 := Lib.hid (HBx.out.grb (h3 _).grb (by have := HLt.out; omega))
  have HK1 := Lib.hid (HK0.out.trans (h3 B))
  have HR1 := Lib.hid h1
  have HO1 := Lib.hid h2
  obtain ⟨r0, r1, r2, _⟩ := HB1.out
  have HA1 := Lib.hid (HA.out w1 (HK1.out.low (Nat.le_of_lt HgB.out)))
  clear h1 h2 h3 HP HA HBx HK0 HLt
  go_wp2_with fail
  refine HA1.out.mono ?_
  rintro e w2 ⟨rfl, hb2⟩
  have hsz := HK1.out.2.2.2.1
  have HU := Lib.hid (push_walkB (l := []) (HR1.out.below hb2) (HO1.out.below hb2) HgB.out (by have := HBw.out; have := hb2.size; omega) y (by simp))
  have HK2 := Lib.hid (HK1.out.trans (Kp.of (hb2.mono (by have := HBw.out; omega))))
  clear hb2 hsz HA1 HR1 HO1 HK1 r0 r1 r2 HB1
  go_wp2_with fail
  refine HU.out.mono ?_
  rintro e w3 ⟨rfl, v3, h1, h2, h3⟩
  have HR3 := Lib.hid h1
  have HO3 := Lib.hid h2
  have HK3 := Lib.hid (HK2.out.trans h3)
  clear h1 h2 h3
  go_wp2_with fail
  exact bodyPost_end (results_none (by rfl) _ _ _) (by rfl) ⟨rfl, v3, HR3.out, HO3.out, HK3.out⟩
end Go.Proofs.YtibjogbalmbeeaaGreatDoor
