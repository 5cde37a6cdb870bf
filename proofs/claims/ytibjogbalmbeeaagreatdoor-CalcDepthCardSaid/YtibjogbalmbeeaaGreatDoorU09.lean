/- Walks of calc: factor at a number. · Walks of calc: the reader's state by the place of the piece in its hand. · Walks of calc: factor at a parenthesis, given the walk of what it holds. · Walks of calc: factor at a minus, given soft.Neg; a term of one factor, an expression of one term. -/
import Derived.Test.YtibjogbalmbeeaaGreatDoorU08

namespace Go.Proofs.YtibjogbalmbeeaaGreatDoor
open Go.RowKit

set_option maxRecDepth 100000 in
set_option maxHeartbeats 2000000 in
theorem factor_num {w : World} {g : Nat} {s n k t a D L d v h} (H : RdB w g s n k t a D L d v h) (hk : k = 2) (Q : World → Prop)
    (hL : ∀ W, Below w.heap.size w W → Calls Tryz.prog 182 #[.pointer (some ⟨g, 0, none⟩)] W fun e w' => e = .returned (.tuple #[]) ∧ Q w') :
    Calls Tryz.prog 164 #[.pointer (some ⟨g, 0, none⟩)] w fun e w' => e = .returned (.tuple #[]) ∧ Q w' := by
  subst hk
  have HH := Lib.hid H
  have HI := Lib.hid (fun m W => is_walk 2 t a m W)
  have HL := Lib.hid hL
  have h0 : ∀ m, isM 2 t m = false := fun m => by simp [isM]
  obtain ⟨c2, c3, c4⟩ := H.piece
  clear H hL
  go_enter Tryz.func164, Tryz.ntmps164
  go_wp2_with fail
  refine (HI.out _ _).mono ?_
  rintro e w1 ⟨rfl, hb⟩
  rw [h0]
  obtain ⟨d2, d3, d4⟩ := (HH.out.below hb).piece
  have HB := Lib.hid hb
  clear hb
  go_wp2_with fail
  refine (HI.out _ _).mono ?_
  rintro e w2 ⟨rfl, hb⟩
  rw [h0]
  obtain ⟨e2, e3, e4⟩ := ((HH.out.below HB.out).below hb).piece
  have HL2 := Lib.hid (HL.out w2 (below_chain HB.out hb))
  clear hb
  go_wp2_with fail
  refine HL2.out.mono ?_
  rintro e w3 ⟨rfl, hq⟩
  have HQ := Lib.hid hq
  clear hq
  go_wp2_with fail
  exact bodyPost_end (results_none (by rfl) _ _ _) (by rfl) ⟨rfl, HQ.out⟩
set_option maxRecDepth 100000 in
set_option maxHeartbeats 2000000 in
theorem factor_word {w : World} {g : Nat} {s n k t a D L d v h} (H : RdB w g s n k t a D L d v h) (hk : k = 1) (Q : World → Prop)
    (hL : ∀ W, Below w.heap.size w W → Calls Tryz.prog 183 #[.pointer (some ⟨g, 0, none⟩)] W fun e w' => e = .returned (.tuple #[]) ∧ Q w') :
    Calls Tryz.prog 164 #[.pointer (some ⟨g, 0, none⟩)] w fun e w' => e = .returned (.tuple #[]) ∧ Q w' := by
  subst hk
  have HH := Lib.hid H
  have HI := Lib.hid (fun m W => is_walk 1 t a m W)
  have HL := Lib.hid hL
  have h0 : ∀ m, isM 1 t m = false := fun m => by simp [isM]
  obtain ⟨c2, c3, c4⟩ := H.piece
  clear H hL
  go_enter Tryz.func164, Tryz.ntmps164
  go_wp2_with fail
  refine (HI.out _ _).mono ?_
  rintro e w1 ⟨rfl, hb⟩
  rw [h0]
  obtain ⟨d2, d3, d4⟩ := (HH.out.below hb).piece
  have HB := Lib.hid hb
  clear hb
  go_wp2_with fail
  refine (HI.out _ _).mono ?_
  rintro e w2 ⟨rfl, hb⟩
  rw [h0]
  obtain ⟨e2, e3, e4⟩ := ((HH.out.below HB.out).below hb).piece
  have HL2 := Lib.hid (HL.out w2 (below_chain HB.out hb))
  clear hb
  go_wp2_with fail
  refine HL2.out.mono ?_
  rintro e w3 ⟨rfl, hq⟩
  have HQ := Lib.hid hq
  clear hq
  go_wp2_with fail
  exact bodyPost_end (results_none (by rfl) _ _ _) (by rfl) ⟨rfl, HQ.out⟩
set_option maxRecDepth 100000 in
set_option maxHeartbeats 2000000 in
theorem factor_word_no {w : World} {g : Nat} {s n k t a D L d v h} (H : RdB w g s n k t a D L d v h) (hk : k = 1) (Q : World → Prop) (ch : List PanicEntry)
    (hL : ∀ W, Below w.heap.size w W → Calls Tryz.prog 183 #[.pointer (some ⟨g, 0, none⟩)] W fun e w' => e = .panicked ch ∧ Q w') :
    Calls Tryz.prog 164 #[.pointer (some ⟨g, 0, none⟩)] w fun e w' => e = .panicked ch ∧ Q w' := by
  subst hk
  have HH := Lib.hid H
  have HI := Lib.hid (fun m W => is_walk 1 t a m W)
  have HL := Lib.hid hL
  have h0 : ∀ m, isM 1 t m = false := fun m => by simp [isM]
  obtain ⟨c2, c3, c4⟩ := H.piece
  clear H hL
  go_enter Tryz.func164, Tryz.ntmps164
  go_wp2_with fail
  refine (HI.out _ _).mono ?_
  rintro e w1 ⟨rfl, hb⟩
  rw [h0]
  obtain ⟨d2, d3, d4⟩ := (HH.out.below hb).piece
  have HB := Lib.hid hb
  clear hb
  go_wp2_with fail
  refine (HI.out _ _).mono ?_
  rintro e w2 ⟨rfl, hb⟩
  rw [h0]
  obtain ⟨e2, e3, e4⟩ := ((HH.out.below HB.out).below hb).piece
  have HL2 := Lib.hid (HL.out w2 (below_chain HB.out hb))
  clear hb
  go_wp2_with fail
  refine HL2.out.mono ?_
  rintro e w3 ⟨rfl, hq⟩
  have HQ := Lib.hid hq
  clear hq
  go_wp2_with fail
  exact ⟨rfl, rfl, HQ.out⟩
end Go.Proofs.YtibjogbalmbeeaaGreatDoor

namespace Go.Proofs.YtibjogbalmbeeaaGreatDoor
open Go.RowKit

/-- The piece that is cut at n: where it lies, its kind, its text, what comes next. -/
def plc (s : ByteArray) (n : Nat) : Nat := ovr pBln s n
def knd (s : ByteArray) (n : Nat) : Nat := (cutK s (ovr pBln s n)).1
def txt (s : ByteArray) (n : Nat) : ByteArray := cutT s (ovr pBln s n)
def nxt (s : ByteArray) (n : Nat) : Nat := (cutK s (ovr pBln s n)).2
theorem nxt_le {s : ByteArray} {n : Nat} (h : n ≤ s.size) : nxt s n ≤ s.size := (cutK_le (s := s) (i := ovr pBln s n) (ovr_le pBln s h).2).2
/-- The reader at g holds the piece that was cut at n; its stack holds l; since w only g and what is new differ. -/
def St (w W : World) (g : Nat) (s : ByteArray) (n : Nat) (D L : Value) (d : Nat) (h : Int) (l : List Nat) : Prop :=
  Below g w W ∧ ∃ v, RdB W g s (nxt s n) (knd s n) (txt s n) (plc s n) D L d v h ∧ OwV W (g + 1) v l

theorem St.step {w W : World} {g s n D L d h l} (H : St w W g s n D L d h l) (hn : n ≤ s.size) (hs : s.size ≤ 100000) :
    Calls Tryz.prog 26 #[.pointer (some ⟨g, 0, none⟩)] W fun e w' => e = .returned (.tuple #[]) ∧ St w w' g s (nxt s n) D L d h l := by
  obtain ⟨hb, v, hr, ho⟩ := H
  refine (step_walk hr (nxt_le hn) hs).mono ?_
  rintro e w' ⟨rfl, h1, h2⟩
  exact ⟨rfl, hb.trans (grb_below h2 (Nat.le_of_lt hr.lt)), v, h1, ho.grb h2⟩
theorem St.must {w W : World} {g s n D L d h l} (H : St w W g s n D L d h l) (m : ByteArray) (hm : isM (knd s n) (txt s n) m = true) (hn : n ≤ s.size) (hs : s.size ≤ 100000) :
    Calls Tryz.prog 181 #[.pointer (some ⟨g, 0, none⟩), .string m] W fun e w' => e = .returned (.tuple #[]) ∧ St w w' g s (nxt s n) D L d h l := by
  obtain ⟨hb, v, hr, ho⟩ := H
  refine (must_yes' hr m hm (nxt_le hn) hs).mono ?_
  rintro e w' ⟨rfl, h1, h2⟩
  exact ⟨rfl, hb.trans (grb_below h2 (Nat.le_of_lt hr.lt)), v, h1, ho.grb h2⟩
theorem St.deeper {w W : World} {g s n D L d h l} (H : St w W g s n D L d h l) (hd : d < 50) :
    Calls Tryz.prog 179 #[.pointer (some ⟨g, 0, none⟩)] W fun e w' => e = .returned (.tuple #[]) ∧ St w w' g s n D L (d + 1) h l := by
  obtain ⟨hb, v, hr, ho⟩ := H
  refine (deeper_walk hr hd).mono ?_
  rintro e w' ⟨rfl, rfl⟩
  exact ⟨rfl, hb.setCell (Nat.le_refl _) _, v, hr.setDepth _, ho.far (p := ⟨g, 7, none⟩) (Nat.lt_succ_self g) _⟩
theorem St.below {w W W' : World} {g s n D L d h l} (H : St w W g s n D L d h l) (hb : Below W.heap.size W W') : St w W' g s n D L d h l := by
  obtain ⟨h0, v, hr, ho⟩ := H
  exact ⟨h0.trans (hb.mono (Nat.le_of_lt hr.lt)), v, hr.below hb, ho.below hb⟩
theorem St.pop {w W : World} {g s n D L d h l} {x : Nat} (H : St w W g s n D L d h (l ++ [x])) (hl : l.length < 100000) :
    Calls Tryz.prog 105 #[.pointer (some ⟨g, 8, none⟩)] W fun e w' => e = .returned (.int .u64 (x : Int)) ∧ St w w' g s n D L d h l := by
  obtain ⟨hb, v, hr, ho⟩ := H
  refine (pop_walk hr ho hl).mono ?_
  rintro e w' ⟨rfl, v', h1, h2, h3⟩
  exact ⟨rfl, hb.trans h3, v', h1, h2⟩
theorem St.told {w W : World} {g s n D L d h l} (H : St w W g s n D L d h l) (x : Nat) (y : Int) (hl : l.length < 100000) :
    Calls Tryz.prog 142 #[.pointer (some ⟨g, 0, none⟩), .int .u64 (x : Int), .int .i64 y] W fun e w' => e = .returned (.tuple #[]) ∧ St w w' g s n D L d h (l ++ [x]) := by
  obtain ⟨hb, v, hr, ho⟩ := H
  refine (ctold_walk hr ho x y hl).mono ?_
  rintro e w' ⟨rfl, v', h1, h2, h3⟩
  exact ⟨rfl, hb.trans h3, v', h1, h2⟩
/-- A number that reads: its value is on the stack, the next piece is in hand. -/
theorem St.number {w W : World} {g s n D L d h l} (H : St w W g s n D L d h l) (hk : knd s n = 2) (hn : n ≤ s.size) (hs : s.size ≤ 100000) (hl : l.length < 100000) (V : Nat) (dec : Bool)
    (hx : Lib.hasPrefix (txt s n).data.toList [48, 120] = !dec)
    (hP : ∀ U, Below W.heap.size W U → Calls Tryz.prog (if dec then 201 else 202) #[.int .i64 64, .string (txt s n)] U fun e w' => e = .returned (.tuple #[.int .u64 (V : Int), .int .i64 0]) ∧ Below U.heap.size U w') :
    Calls Tryz.prog 164 #[.pointer (some ⟨g, 0, none⟩)] W fun e w' => e = .returned (.tuple #[]) ∧ St w w' g s (nxt s n) D L d h (l ++ [V]) := by
  obtain ⟨hb, v, hr, ho⟩ := H
  refine factor_num hr hk (fun w' => St w w' g s (nxt s n) D L d h (l ++ [V])) fun U hU => ?_
  cases dec
  · refine (literal_hex (hr.below hU) (ho.below hU) (nxt_le hn) hs hl hx V (fun U2 h2 => hP U2 (below_chain hU h2))).mono ?_
    rintro e w' ⟨rfl, ⟨v', h1, h2⟩, h3⟩
    exact ⟨rfl, (hb.trans (hU.mono (Nat.le_of_lt hr.lt))).trans h3, v', h1, h2⟩
  · refine (literal_dec (hr.below hU) (ho.below hU) (nxt_le hn) hs hl hx V (fun U2 h2 => hP U2 (below_chain hU h2))).mono ?_
    rintro e w' ⟨rfl, ⟨v', h1, h2⟩, h3⟩
    exact ⟨rfl, (hb.trans (hU.mono (Nat.le_of_lt hr.lt))).trans h3, v', h1, h2⟩
end Go.Proofs.YtibjogbalmbeeaaGreatDoor

namespace Go.Proofs.YtibjogbalmbeeaaGreatDoor
open Go.RowKit

theorem St.piece {w W : World} {g s n D L d h l} (H : St w W g s n D L d h l) :
    W.cell? ⟨g, 2, none⟩ = some (.int .i64 (knd s n : Int)) ∧ W.cell? ⟨g, 3, none⟩ = some (.string (txt s n)) ∧ W.cell? ⟨g, 4, none⟩ = some (.int .i64 (plc s n : Int)) := by
  obtain ⟨_, v, hr, _⟩ := H; exact hr.piece
theorem St.depth {w W : World} {g s n D L d h l} (H : St w W g s n D L d h l) : W.cell? ⟨g, 7, none⟩ = some (.int .i64 (d : Int)) ∧ W.frozen? ⟨g, 7, none⟩ = false := by
  obtain ⟨_, v, hr, _⟩ := H; exact ⟨hr.cell 7, hr.frozen 7⟩
theorem St.setDepth {w W : World} {g s n D L d h l} (H : St w W g s n D L d h l) (d' : Nat) : St w (W.setCell ⟨g, 7, none⟩ (.int .i64 (d' : Int))) g s n D L d' h l := by
  obtain ⟨hb, v, hr, ho⟩ := H
  exact ⟨hb.setCell (Nat.le_refl _) _, v, hr.setDepth _, ho.far (p := ⟨g, 7, none⟩) (Nat.lt_succ_self g) _⟩

set_option maxRecDepth 100000 in
set_option maxHeartbeats 2000000 in
theorem St.paren {w W : World} {g s n n2 D L d h l} {x : Nat} (H : St w W g s n D L d h l) (hm : isM (knd s n) (txt s n) ⟨#[40]⟩ = true) (hn : n ≤ s.size) (hs : s.size ≤ 100000) (hd : d < 50) (hn2 : n2 ≤ s.size) (hm2 : isM (knd s n2) (txt s n2) ⟨#[41]⟩ = true)
    (hE : ∀ U, St w U g s (nxt s n) D L (d + 1) h l → Calls Tryz.prog 104 #[.pointer (some ⟨g, 0, none⟩)] U fun e w' => e = .returned (.tuple #[]) ∧ St w w' g s n2 D L (d + 1) h (l ++ [x])) :
    Calls Tryz.prog 164 #[.pointer (some ⟨g, 0, none⟩)] W fun e w' => e = .returned (.tuple #[]) ∧ St w w' g s (nxt s n2) D L d h (l ++ [x]) := by
  have hm0 : isM (knd s n) (txt s n) ⟨#[45]⟩ = false := by
    unfold isM at hm ⊢
    rw [Bool.and_eq_true, decide_eq_true_eq, decide_eq_true_eq] at hm
    rw [hm.2, Bool.and_eq_false_iff]
    exact .inr (by decide)
  have HH := Lib.hid H
  have HI1 := Lib.hid (fun U => is_walk (knd s n) (txt s n) (plc s n) ⟨#[45]⟩ U)
  have HI2 := Lib.hid (fun U => is_walk (knd s n) (txt s n) (plc s n) ⟨#[40]⟩ U)
  rw [hm0] at HI1
  rw [hm] at HI2
  have HD := Lib.hid (fun U (hU : St w U g s n D L d h l) => hU.deeper hd)
  have HS := Lib.hid (fun U (hU : St w U g s n D L (d + 1) h l) => hU.step hn hs)
  have HM := Lib.hid (fun U (hU : St w U g s n2 D L (d + 1) h (l ++ [x])) => hU.must ⟨#[41]⟩ hm2 hn2 hs)
  have HE := Lib.hid hE
  have HF := Lib.hid (fun U (hU : St w U g s (nxt s n2) D L (d + 1) h (l ++ [x])) => hU.setDepth d)
  have kw : IntKind.i64.wrap (((d + 1 : Nat) : Int) - 1) = (d : Int) := by rw [IntKind.wrap_i64]; omega
  obtain ⟨d1, hd1⟩ : ∃ d1, d + 1 = d1 := ⟨_, rfl⟩
  rw [hd1] at HD HS HM HE HF kw
  obtain ⟨c2, c3, c4⟩ := H.piece
  clear H hm0 hm hm2 hn hs hd hn2 hE hd1
  go_enter Tryz.func164, Tryz.ntmps164
  go_wp2_with fail
  refine (HI1.out _).mono ?_
  rintro e w1 ⟨rfl, hb⟩
  have HB := Lib.hid (HH.out.below hb)
  obtain ⟨d2, d3, d4⟩ := HB.out.piece
  clear hb
  go_wp2_with fail
  refine (HI2.out _).mono ?_
  rintro e w2 ⟨rfl, hb⟩
  have HD2 := Lib.hid (HD.out w2 (HB.out.below hb))
  clear hb
  go_wp2_with fail
  refine HD2.out.mono ?_
  rintro e w3 ⟨rfl, h3⟩
  have HS3 := Lib.hid (HS.out w3 h3)
  clear h3
  go_wp2_with fail
  refine HS3.out.mono ?_
  rintro e w4 ⟨rfl, h4⟩
  have HE4 := Lib.hid (HE.out w4 h4)
  clear h4
  go_wp2_with fail
  refine HE4.out.mono ?_
  rintro e w5 ⟨rfl, h5⟩
  have HM5 := Lib.hid (HM.out w5 h5)
  clear h5
  go_wp2_with fail
  refine HM5.out.mono ?_
  rintro e w6 ⟨rfl, h6⟩
  obtain ⟨f7, g7⟩ := h6.depth
  have HF6 := Lib.hid (HF.out w6 h6)
  clear h6
  go_wp2_with fail
  exact bodyPost_end (results_none (by rfl) _ _ _) (by rfl) ⟨rfl, HF6.out⟩
end Go.Proofs.YtibjogbalmbeeaaGreatDoor

namespace Go.Proofs.YtibjogbalmbeeaaGreatDoor
open Go.RowKit

set_option maxRecDepth 100000 in
set_option maxHeartbeats 2000000 in
theorem St.minus {w W : World} {g s n n2 D L d h l} {x y : Nat} {z : Int} (H : St w W g s n D L d h l) (hm : isM (knd s n) (txt s n) ⟨#[45]⟩ = true) (hn : n ≤ s.size) (hs : s.size ≤ 100000) (hd : d < 50) (hl : l.length < 100000)
    (hE : ∀ U, St w U g s (nxt s n) D L (d + 1) h l → Calls Tryz.prog 164 #[.pointer (some ⟨g, 0, none⟩)] U fun e w' => e = .returned (.tuple #[]) ∧ St w w' g s n2 D L (d + 1) h (l ++ [x]))
    (hN : ∀ U, St w U g s n2 D L d h l → Calls Tryz.prog 180 #[.int .i64 64, .int .u64 (x : Int)] U fun e w' => e = .returned (.tuple #[.int .u64 (y : Int), .int .i64 z]) ∧ Below U.heap.size U w') :
    Calls Tryz.prog 164 #[.pointer (some ⟨g, 0, none⟩)] W fun e w' => e = .returned (.tuple #[]) ∧ St w w' g s n2 D L d h (l ++ [y]) := by
  have HH := Lib.hid H
  have HI1 := Lib.hid (fun U => is_walk (knd s n) (txt s n) (plc s n) ⟨#[45]⟩ U)
  rw [hm] at HI1
  have HD := Lib.hid (fun U (hU : St w U g s n D L d h l) => hU.deeper hd)
  have HS := Lib.hid (fun U (hU : St w U g s n D L (d + 1) h l) => hU.step hn hs)
  have HE := Lib.hid hE
  have HF := Lib.hid (fun U (hU : St w U g s n2 D L (d + 1) h (l ++ [x])) => hU.setDepth d)
  have HPp := Lib.hid (fun U (hU : St w U g s n2 D L d h (l ++ [x])) => hU.pop hl)
  have HT := Lib.hid (fun U (hU : St w U g s n2 D L d h l) => hU.told y z hl)
  have HN := Lib.hid hN
  have kw : IntKind.i64.wrap (((d + 1 : Nat) : Int) - 1) = (d : Int) := by rw [IntKind.wrap_i64]; omega
  obtain ⟨d1, hd1⟩ : ∃ d1, d + 1 = d1 := ⟨_, rfl⟩
  rw [hd1] at HD HS HE HF kw
  obtain ⟨c2, c3, c4⟩ := H.piece
  clear H hm hn hs hd hE hN hd1
  go_enter Tryz.func164, Tryz.ntmps164
  go_wp2_with fail
  refine (HI1.out _).mono ?_
  rintro e w2 ⟨rfl, hb⟩
  have HD2 := Lib.hid (HD.out w2 (HH.out.below hb))
  clear hb
  go_wp2_with fail
  refine HD2.out.mono ?_
  rintro e w3 ⟨rfl, h3⟩
  have HS3 := Lib.hid (HS.out w3 h3)
  clear h3
  go_wp2_with fail
  refine HS3.out.mono ?_
  rintro e w4 ⟨rfl, h4⟩
  have HE4 := Lib.hid (HE.out w4 h4)
  clear h4
  go_wp2_with fail
  refine HE4.out.mono ?_
  rintro e w5 ⟨rfl, h5⟩
  obtain ⟨f7, g7⟩ := h5.depth
  have HF5 := Lib.hid (HF.out w5 h5)
  clear h5
  go_wp2_with fail
  have HP5 := Lib.hid (HPp.out _ HF5.out)
  refine HP5.out.mono ?_
  rintro e w6 ⟨rfl, h6⟩
  have H6 := Lib.hid h6
  clear h6
  go_wp2_with fail
  refine (HN.out _ H6.out).mono ?_
  rintro e w7 ⟨rfl, h7⟩
  have HT7 := Lib.hid (HT.out w7 (H6.out.below h7))
  clear h7
  go_wp2_with fail
  refine HT7.out.mono ?_
  rintro e w8 ⟨rfl, h8⟩
  have H8 := Lib.hid h8
  clear h8
  go_wp2_with fail
  exact bodyPost_end (results_none (by rfl) _ _ _) (by rfl) ⟨rfl, H8.out⟩
end Go.Proofs.YtibjogbalmbeeaaGreatDoor
