/- Walks of calc: value, print, named, command (printed by gen_cr.py). · Walks of calc: New, trig.New; the deferred call of Line where nothing has gone wrong. · Walks of calc: a desk's line that is an expression; a command. · Walks of calc: a desk's line that is a constant. -/
import Derived.Test.YtibjogbalmbeeaaGreatDoorY23
import Derived.Deep.DeepCutAuto

namespace Go.Proofs.YtibjogbalmbeeaaGreatDoor
open Go.RowKit

/-- Block q is a desk. -/
def DkB (w : World) (q : Nat) (m : Value) (hx sl : Bool) : Prop := w.heap[q]? = some (.cells #[m, .bool hx, .bool sl] 55 (0, 0))
theorem DkB.cell {w : World} {q m hx sl} (H : DkB w q m hx sl) (j : Nat) : w.cell? ⟨q, j, none⟩ = (#[m, .bool hx, .bool sl] : Array Value)[j]? := cell_of_row w q j _ _ (0, 0) H
theorem DkB.frozen {w : World} {q m hx sl} (H : DkB w q m hx sl) (j : Nat) : w.frozen? ⟨q, j, none⟩ = false := by
  unfold DkB at H; simp [World.frozen?, H]
theorem DkB.lt {w : World} {q m hx sl} (H : DkB w q m hx sl) : q < w.heap.size := (Array.getElem?_eq_some_iff.1 H).1
theorem DkB.keep {w w1 : World} {q m hx sl} {B : Nat} (H : DkB w q m hx sl) (hb : Below B w w1) (hq : q < B) : DkB w1 q m hx sl := (hb.block q hq).trans H
theorem DkB.setHex {w : World} {q m hx sl} (H : DkB w q m hx sl) (y : Bool) : DkB (w.setCell ⟨q, 1, none⟩ (.bool y)) q m y sl := set_row H
theorem St.hard {w W : World} {g s n D L d h l} (H : St w W g s n D L d h l) : W.cell? ⟨g, 9, none⟩ = some (.int .i64 h) := by
  obtain ⟨_, v, hr, _⟩ := H; exact hr.cell 9

set_option maxRecDepth 100000 in
set_option maxHeartbeats 1000000 in
theorem St.value {w W : World} {g s n n2 D L d l} {x : Nat} (H : St w W g s n D L d (-1) l) (hk : knd s n2 = 0) (hl : l.length < 100000)
    (hE : ∀ U, St w U g s n D L d (-1) l → Calls Tryz.prog 104 #[.pointer (some ⟨g, 0, none⟩)] U fun e w' => e = .returned (.tuple #[]) ∧ St w w' g s n2 D L d (-1) (l ++ [x])) :
    Calls Tryz.prog 58 #[.pointer (some ⟨g, 0, none⟩)] W fun e w' => e = .returned (.int .u64 (x : Int)) ∧ St w w' g s n2 D L d (-1) l := by
  have HE := Lib.hid (hE W H)
  have HP := Lib.hid (fun U (hU : St w U g s n2 D L d (-1) (l ++ [x])) => hU.pop hl)
  have HK := Lib.hid hk
  obtain ⟨y, hy⟩ : ∃ y : Int, (x : Int) = y := ⟨_, rfl⟩
  rw [hy] at HP ⊢
  clear H hk hl hE hy
  go_enter Tryz.func58, Tryz.ntmps58
  go_wp2_with fail
  refine HE.out.mono ?_
  rintro e w1 ⟨rfl, h1⟩
  have c2 : w1.cell? ⟨g, 2, none⟩ = some (.int .i64 0) := by have := h1.piece.1; rw [HK.out] at this; exact this
  have c9 := h1.hard
  have HP1 := Lib.hid (HP.out w1 h1)
  clear h1
  go_wp2_with fail
  refine HP1.out.mono ?_
  rintro e w2 ⟨rfl, h2⟩
  have H2 := Lib.hid h2
  clear h2
  go_wp2_with fail
  exact bodyPost_ret (v := .int .u64 y) (by simp [results, Tryz.results58, go_sem]) rfl ⟨rfl, H2.out⟩

set_option maxRecDepth 100000 in
set_option maxHeartbeats 1000000 in
theorem print_walk {w : World} {q m hx sl} (H : DkB w q m hx sl) (x : Nat) (T : ByteArray)
    (hP : Calls Tryz.prog (if hx then 9 else 8) #[.int .i64 64, .int .u64 (x : Int)] w fun e w' => e = .returned (.tuple #[.string T, .int .i64 0]) ∧ Below w.heap.size w w') :
    Calls Tryz.prog 59 #[.pointer (some ⟨q, 0, none⟩), .int .u64 (x : Int)] w fun e w' => e = .returned (.string T) ∧ Below w.heap.size w w' := by
  have HP := Lib.hid hP
  cases hx
  · have c1 : w.cell? ⟨q, 1, none⟩ = some (.bool false) := H.cell 1
    clear H hP
    go_enter Tryz.func59, Tryz.ntmps59
    go_wp2_with fail
    refine HP.out.mono ?_
    rintro e w2 ⟨rfl, h2⟩
    have H2 := Lib.hid h2
    clear h2
    go_wp2_with fail
    exact bodyPost_ret (v := .string T) (by simp [results, Tryz.results59, go_sem]) rfl ⟨rfl, H2.out⟩
  · have c1 : w.cell? ⟨q, 1, none⟩ = some (.bool true) := H.cell 1
    clear H hP
    go_enter Tryz.func59, Tryz.ntmps59
    go_wp2_with fail
    refine HP.out.mono ?_
    rintro e w2 ⟨rfl, h2⟩
    have H2 := Lib.hid h2
    clear h2
    go_wp2_with fail
    exact bodyPost_ret (v := .string T) (by simp [results, Tryz.results59, go_sem]) rfl ⟨rfl, H2.out⟩

set_option maxRecDepth 100000 in
set_option maxHeartbeats 1000000 in
theorem named_no (k : Nat) (t : ByteArray) (a : Nat) (hk : k ≠ 1) (W : World) :
    Calls Tryz.prog 55 #[.agg #[.int .i64 (k : Int), .string t, .int .i64 (a : Int)]] W fun e w' => e = .returned (.bool false) ∧ Below W.heap.size W w' := by
  have hb := below_alloc' W (.cells #[.int .i64 (k : Int), .string t, .int .i64 (a : Int)] 66)
  have g1 : ((k : Int) != 1) = true := by rw [bne_iff_ne]; omega
  clear hk
  go_enter Tryz.func55, Tryz.ntmps55
  go_wp2_with fail
  exact bodyPost_ret (v := .bool false) (by simp [results, Tryz.results55, go_sem]) rfl ⟨rfl, hb⟩
set_option maxRecDepth 100000 in
set_option maxHeartbeats 1000000 in
theorem named_const (t : ByteArray) (a V : Nat) (ht : t.size ≤ 16) (hc : ∀ U, Calls Tryz.prog 102 #[.string t] U fun e w' => e = .returned (.tuple #[.int .u64 (V : Int), .bool true]) ∧ w' = U) (W : World) :
    Calls Tryz.prog 55 #[.agg #[.int .i64 1, .string t, .int .i64 (a : Int)]] W fun e w' => e = .returned (.bool false) ∧ Below W.heap.size W w' := by
  have hb := below_alloc' W (.cells #[.int .i64 1, .string t, .int .i64 (a : Int)] 66)
  have g1 : ¬ (16 : Int) < (t.size : Int) := by omega
  have HC := Lib.hid hc
  clear ht hc
  go_enter Tryz.func55, Tryz.ntmps55
  go_wp2_with fail
  refine (HC.out _).mono ?_
  rintro e w1 ⟨rfl, hw⟩
  (have h0 := hw.symm); subst h0
  clear hw
  go_wp2_with fail
  exact bodyPost_ret (v := .bool false) (by simp [results, Tryz.results55, go_sem]) rfl ⟨rfl, hb⟩
set_option maxRecDepth 100000 in
theorem command_inf (W : World) : Calls Tryz.prog 52 #[.string infC] W fun e w' => e = .returned (.bool false) ∧ w' = W := by
  have f0 : (infC.toList == [100, 114, 111, 112]) = false := ne_str (s := infC) (t := ⟨#[100, 114, 111, 112]⟩) (by decide)
  have f1 : (infC.toList == [99, 108, 101, 97, 114]) = false := ne_str (s := infC) (t := ⟨#[99, 108, 101, 97, 114]⟩) (by decide)
  have f2 : (infC.toList == [110, 97, 109, 101, 115]) = false := ne_str (s := infC) (t := ⟨#[110, 97, 109, 101, 115]⟩) (by decide)
  have f3 : (infC.toList == [104, 101, 120]) = false := ne_str (s := infC) (t := ⟨#[104, 101, 120]⟩) (by decide)
  have f4 : (infC.toList == [100, 101, 99]) = false := ne_str (s := infC) (t := ⟨#[100, 101, 99]⟩) (by decide)
  have f5 : (infC.toList == [102, 97, 115, 116]) = false := ne_str (s := infC) (t := ⟨#[102, 97, 115, 116]⟩) (by decide)
  have f6 : (infC.toList == [115, 108, 111, 119]) = false := ne_str (s := infC) (t := ⟨#[115, 108, 111, 119]⟩) (by decide)
  generalize infC = t at *
  go_enter Tryz.func52, Tryz.ntmps52
  go_wp2_with fail
  exact bodyPost_ret (v := .bool false) (by simp [results, Tryz.results52, go_sem]) rfl ⟨rfl, rfl⟩
set_option maxRecDepth 100000 in
theorem command_nan (W : World) : Calls Tryz.prog 52 #[.string nanC] W fun e w' => e = .returned (.bool false) ∧ w' = W := by
  have f0 : (nanC.toList == [100, 114, 111, 112]) = false := ne_str (s := nanC) (t := ⟨#[100, 114, 111, 112]⟩) (by decide)
  have f1 : (nanC.toList == [99, 108, 101, 97, 114]) = false := ne_str (s := nanC) (t := ⟨#[99, 108, 101, 97, 114]⟩) (by decide)
  have f2 : (nanC.toList == [110, 97, 109, 101, 115]) = false := ne_str (s := nanC) (t := ⟨#[110, 97, 109, 101, 115]⟩) (by decide)
  have f3 : (nanC.toList == [104, 101, 120]) = false := ne_str (s := nanC) (t := ⟨#[104, 101, 120]⟩) (by decide)
  have f4 : (nanC.toList == [100, 101, 99]) = false := ne_str (s := nanC) (t := ⟨#[100, 101, 99]⟩) (by decide)
  have f5 : (nanC.toList == [102, 97, 115, 116]) = false := ne_str (s := nanC) (t := ⟨#[102, 97, 115, 116]⟩) (by decide)
  have f6 : (nanC.toList == [115, 108, 111, 119]) = false := ne_str (s := nanC) (t := ⟨#[115, 108, 111, 119]⟩) (by decide)
  generalize nanC = t at *
  go_enter Tryz.func52, Tryz.ntmps52
  go_wp2_with fail
  exact bodyPost_ret (v := .bool false) (by simp [results, Tryz.results52, go_sem]) rfl ⟨rfl, rfl⟩
def hexC : ByteArray := ⟨#[104, 101, 120]⟩
set_option maxRecDepth 100000 in
theorem command_hex (W : World) : Calls Tryz.prog 52 #[.string hexC] W fun e w' => e = .returned (.bool true) ∧ w' = W := by
  have f0 : (hexC.toList == [100, 114, 111, 112]) = false := ne_str (s := hexC) (t := ⟨#[100, 114, 111, 112]⟩) (by decide)
  have f1 : (hexC.toList == [99, 108, 101, 97, 114]) = false := ne_str (s := hexC) (t := ⟨#[99, 108, 101, 97, 114]⟩) (by decide)
  have f2 : (hexC.toList == [110, 97, 109, 101, 115]) = false := ne_str (s := hexC) (t := ⟨#[110, 97, 109, 101, 115]⟩) (by decide)
  have f3 : (hexC.toList == [104, 101, 120]) = true := eq_str hexC
  generalize hexC = t at *
  go_enter Tryz.func52, Tryz.ntmps52
  go_wp2_with fail
  exact bodyPost_ret (v := .bool true) (by simp [results, Tryz.results52, go_sem]) rfl ⟨rfl, rfl⟩
def decC : ByteArray := ⟨#[100, 101, 99]⟩
set_option maxRecDepth 100000 in
theorem command_dec (W : World) : Calls Tryz.prog 52 #[.string decC] W fun e w' => e = .returned (.bool true) ∧ w' = W := by
  have f0 : (decC.toList == [100, 114, 111, 112]) = false := ne_str (s := decC) (t := ⟨#[100, 114, 111, 112]⟩) (by decide)
  have f1 : (decC.toList == [99, 108, 101, 97, 114]) = false := ne_str (s := decC) (t := ⟨#[99, 108, 101, 97, 114]⟩) (by decide)
  have f2 : (decC.toList == [110, 97, 109, 101, 115]) = false := ne_str (s := decC) (t := ⟨#[110, 97, 109, 101, 115]⟩) (by decide)
  have f3 : (decC.toList == [104, 101, 120]) = false := ne_str (s := decC) (t := ⟨#[104, 101, 120]⟩) (by decide)
  have f4 : (decC.toList == [100, 101, 99]) = true := eq_str decC
  generalize decC = t at *
  go_enter Tryz.func52, Tryz.ntmps52
  go_wp2_with fail
  exact bodyPost_ret (v := .bool true) (by simp [results, Tryz.results52, go_sem]) rfl ⟨rfl, rfl⟩
set_option maxRecDepth 100000 in
set_option maxHeartbeats 1000000 in
theorem desk_hex {w : World} {q m hx sl} (H : DkB w q m hx sl) :
    Calls Tryz.prog 54 #[.pointer (some ⟨q, 0, none⟩), .string hexC] w fun e w' => e = .returned (.string ⟨#[]⟩) ∧ w' = w.setCell ⟨q, 1, none⟩ (.bool true) := by
  have c1 : w.cell? ⟨q, 1, none⟩ = some (.bool hx) := H.cell 1
  have fz := H.frozen 1
  have f0 : (hexC.toList == [110, 97, 109, 101, 115]) = false := ne_str (s := hexC) (t := ⟨#[110, 97, 109, 101, 115]⟩) (by decide)
  have f1 : (hexC.toList == [99, 108, 101, 97, 114]) = false := ne_str (s := hexC) (t := ⟨#[99, 108, 101, 97, 114]⟩) (by decide)
  have f2 : (hexC.toList == [104, 101, 120]) = true := eq_str hexC
  generalize hexC = t at *
  clear H
  go_enter Tryz.func54, Tryz.ntmps54
  go_wp2_with fail
  exact bodyPost_ret (v := .string ⟨#[]⟩) (by simp [results, Tryz.results54, go_sem]) rfl ⟨rfl, rfl⟩
set_option maxRecDepth 100000 in
set_option maxHeartbeats 1000000 in
theorem desk_dec {w : World} {q m hx sl} (H : DkB w q m hx sl) :
    Calls Tryz.prog 54 #[.pointer (some ⟨q, 0, none⟩), .string decC] w fun e w' => e = .returned (.string ⟨#[]⟩) ∧ w' = w.setCell ⟨q, 1, none⟩ (.bool false) := by
  have c1 : w.cell? ⟨q, 1, none⟩ = some (.bool hx) := H.cell 1
  have fz := H.frozen 1
  have f0 : (decC.toList == [110, 97, 109, 101, 115]) = false := ne_str (s := decC) (t := ⟨#[110, 97, 109, 101, 115]⟩) (by decide)
  have f1 : (decC.toList == [99, 108, 101, 97, 114]) = false := ne_str (s := decC) (t := ⟨#[99, 108, 101, 97, 114]⟩) (by decide)
  have f2 : (decC.toList == [104, 101, 120]) = false := ne_str (s := decC) (t := ⟨#[104, 101, 120]⟩) (by decide)
  have f3 : (decC.toList == [100, 101, 99]) = true := eq_str decC
  generalize decC = t at *
  clear H
  go_enter Tryz.func54, Tryz.ntmps54
  go_wp2_with fail
  exact bodyPost_ret (v := .string ⟨#[]⟩) (by simp [results, Tryz.results54, go_sem]) rfl ⟨rfl, rfl⟩
end Go.Proofs.YtibjogbalmbeeaaGreatDoor

namespace Go.Proofs.YtibjogbalmbeeaaGreatDoor
open Go.RowKit

set_option maxRecDepth 100000 in
theorem new_walk (w : World) : Calls Tryz.prog 10 #[] w fun e w' => e = .returned (.pointer (some ⟨w.heap.size, 0, none⟩)) ∧ (∃ m, DkB w' w.heap.size m false false) ∧ Below w.heap.size w w' := by
  go_enter Tryz.func10, Tryz.ntmps10
  go_wp2_with fail
  refine bodyPost_ret (v := .pointer (some ⟨w.heap.size, 0, none⟩)) (by simp [results, Tryz.results10, go_sem]) rfl ⟨rfl, ⟨_, heap_alloc_new w _⟩, below_alloc' w _⟩
set_option maxRecDepth 100000 in
theorem trignew_walk (w : World) : Calls Tryz.prog 25 #[.int .i64 1] w fun e w' => ∃ p, e = .returned (.tuple #[.pointer (some p), .int .i64 0]) ∧ Below w.heap.size w w' := by
  go_enter Tryz.func25, Tryz.ntmps25
  go_wp2_with fail
  refine bodyPost_ret (v := .tuple #[.pointer (some ⟨w.heap.size, 0, none⟩), .int .i64 0]) (by simp [results, Tryz.results25, go_sem]) rfl ⟨_, rfl, below_alloc' w _⟩
set_option maxRecDepth 100000 in
set_option maxHeartbeats 4000000 in
theorem line_idle (p : Addr) (w : World) :
    CallsD Tryz.prog 24 #[.pointer (some p)] .returning w fun e u' w' => e = .returned (.tuple #[]) ∧ u' = .returning ∧ w' = w := by
  refine callsD_of_wpS Tryz.func24 rfl fun c₀ cs hu => ?_
  apply wpS_seq
  apply wpS_region
  simp [wpOpsS, go_sem, recoverD, hu, Tryz.ntmps24, Exit.thenS]
  refine wpS_of_wp ?_
  have hfr : (#[Value.pointer (some p)] ++ ((Array.replicate 19 undef).setIfInBounds 3 Value.nilIface).setIfInBounds 0 Value.nilIface : Array Value) = #[.pointer (some p), .nilIface, undef, undef, .nilIface, undef, undef, undef, undef, undef, undef, undef, undef, undef, undef, undef, undef, undef, undef, undef] := rfl
  rw [hfr]
  clear hfr
  go_wp2
  cases c₀
  simp_all [bodyPostS, results, Tryz.results24]
end Go.Proofs.YtibjogbalmbeeaaGreatDoor

namespace Go.Proofs.YtibjogbalmbeeaaGreatDoor
open Go.RowKit

theorem St.lt {w W : World} {g s n D L d h l} (H : St w W g s n D L d h l) : g < W.heap.size := by
  obtain ⟨_, v, hr, _⟩ := H; exact hr.lt
set_option maxRecDepth 100000 in
set_option maxHeartbeats 2000000 in
theorem desk_line_n {w W : World} {g q : Nat} {s : ByteArray} {L m : Value} {hx sl : Bool} {x : Nat} {T' : ByteArray} (H : St w W g s 0 (.pointer (some ⟨q, 0, none⟩)) L 0 (-1) [])
    (hD : DkB W q m hx sl) (hq : q < g) (hs : s.size ≤ 100000) (hk0 : knd s 0 ≠ 0) (hk1 : knd s 0 ≠ 1)
    (hV : ∀ U, St w U g s 0 (.pointer (some ⟨q, 0, none⟩)) L 0 (-1) [] → Calls Tryz.prog 58 #[.pointer (some ⟨g, 0, none⟩)] U fun e w' => e = .returned (.int .u64 (x : Int)) ∧ St w w' g s s.size (.pointer (some ⟨q, 0, none⟩)) L 0 (-1) [])
    (hP : ∀ U, Below g w U → DkB U q m hx sl → Calls Tryz.prog 59 #[.pointer (some ⟨q, 0, none⟩), .int .u64 (x : Int)] U fun e w' => e = .returned (.string T') ∧ Below U.heap.size U w') :
    Calls Tryz.prog 27 #[.pointer (some ⟨q, 0, none⟩), .pointer (some ⟨g, 0, none⟩)] W fun e w' => e = .returned (.string T') ∧ Below g w w' ∧ DkB w' q m hx sl := by
  have hDw : ∀ U, St w U g s 0 (.pointer (some ⟨q, 0, none⟩)) L 0 (-1) [] → Below g W U → DkB U q m hx sl := fun U _ hb => hD.keep hb hq
  obtain ⟨c2, c3, c4⟩ := H.piece
  have hcut := fun U => ccut_walk s (nxt s 0) (nxt_le (Nat.zero_le _)) hs U
  have hnm := fun U => named_no (knd s 0) (txt s 0) (plc s 0) hk1 U
  have g1 : ((knd s 0 : Int) == 0) = false := by rw [beq_eq_false_iff_ne]; omega
  have g2 : ((knd s 0 : Int) == 1) = false := by rw [beq_eq_false_iff_ne]; omega
  obtain ⟨hb0, v, hr, ho⟩ := id H
  have c0 : W.cell? ⟨g, 0, none⟩ = some (.string s) := hr.cell 0
  have c1 : W.cell? ⟨g, 1, none⟩ = some (.int .i64 (nxt s 0 : Int)) := hr.cell 1
  have hlt := hr.lt
  have HD0 := Lib.hid (show DkB w q m hx sl from (hb0.block q hq).symm.trans hD)
  have HST := Lib.hid H
  have HV := Lib.hid hV
  have HP := Lib.hid hP
  have HK := Lib.hid hD
  have HG := Lib.hid hlt
  have HQ := Lib.hid hq
  generalize knd s 0 = k at *
  generalize txt s 0 = t at *
  generalize plc s 0 = a at *
  generalize nxt s 0 = n at *
  generalize (cutK s (ovr pBln s n)).2 = n' at *
  generalize (cutK s (ovr pBln s n)).1 = k' at *
  generalize cutT s (ovr pBln s n) = t' at *
  generalize ovr pBln s n = a' at *
  have HC := Lib.hid hcut
  have HN := Lib.hid hnm
  have hA := below_alloc' W (.cells #[.int .i64 (k : Int), .string t, .int .i64 (a : Int)] 66)
  have HB0 := Lib.hid (show Box3 (W.alloc (.cells #[.int .i64 (k : Int), .string t, .int .i64 (a : Int)] 66)) W.heap.size (.int .i64 (k : Int)) (.string t) (.int .i64 (a : Int)) from ⟨by simp, by simp, by simp, by simp, by simp, by simp, by simp⟩)
  have y0 := cell_kept hA c0
  have y1 := cell_kept hA c1
  have HA := Lib.hid hA
  clear H hD hq hs hk0 hk1 hV hP hDw hcut hnm hb0 hr ho hlt hA
  go_enter Tryz.func27, Tryz.ntmps27
  go_upto_region 13 with fail
  go_cut [6, 7] (fun s6 s7 wx => (∃ p, s6 = .pointer (some p)) ∧ s7 = .int .i64 (n' : Int) ∧ Hid (Below (W.alloc (.cells #[.int .i64 (k : Int), .string t, .int .i64 (a : Int)] 66)).heap.size (W.alloc (.cells #[.int .i64 (k : Int), .string t, .int .i64 (a : Int)] 66)) wx))
  case first =>
    have HZ := Lib.hid (show Box3 ((W.alloc (.cells #[.int .i64 (k : Int), .string t, .int .i64 (a : Int)] 66)).alloc (.cells #[.int .i64 0, .string ⟨#[]⟩, .int .i64 0] 66)).drew (W.heap.size + 1) (.int .i64 0) (.string ⟨#[]⟩) (.int .i64 0) from (show Box3 ((W.alloc (.cells #[.int .i64 (k : Int), .string t, .int .i64 (a : Int)] 66)).alloc (.cells #[.int .i64 0, .string ⟨#[]⟩, .int .i64 0] 66)) (W.heap.size + 1) (.int .i64 0) (.string ⟨#[]⟩) (.int .i64 0) from ⟨by simp, by simp, by simp, by simp, by simp, by simp, by simp⟩))
    have v0 := cell_kept (below_alloc' _ (.cells #[.int .i64 0, .string ⟨#[]⟩, .int .i64 0] 66)) y0
    have v1 := cell_kept (below_alloc' _ (.cells #[.int .i64 0, .string ⟨#[]⟩, .int .i64 0] 66)) y1
    go_region_with ((go_at_call 50; first
      | (refine (HC.out (W.alloc (.cells #[.int .i64 (k : Int), .string t, .int .i64 (a : Int)] 66)).drew).mono ?_; rintro e w1 ⟨rfl, hb⟩; have HB := Lib.hid hb; clear hb)
      | (refine (HC.out ((W.alloc (.cells #[.int .i64 (k : Int), .string t, .int .i64 (a : Int)] 66)).alloc (.cells #[.int .i64 0, .string ⟨#[]⟩, .int .i64 0] 66)).drew).mono ?_; rintro e w1 ⟨rfl, hb⟩; obtain ⟨x0, x1, x2, z0, z1, z2, _⟩ := HZ.out.below hb; have HB := Lib.hid hb; clear hb)))
    all_goals go_wp2_with fail
    all_goals go_meet
    all_goals first
      | exact ⟨⟨_, rfl⟩, rfl, Lib.hid (below_chain ((below_dn (Below.refl _ _) 1).trans HB.out) (below_alloc' _ _))⟩
      | exact ⟨⟨_, rfl⟩, rfl, Lib.hid ((((below_chain (below_dn (below_alloc' _ _) 1) HB.out).setCell (p := ⟨W.heap.size + 1, 0, none⟩) (by simp) _).setCell (p := ⟨W.heap.size + 1, 1, none⟩) (by simp) _).setCell (p := ⟨W.heap.size + 1, 2, none⟩) (by simp) _)⟩
  case rest =>
    obtain ⟨⟨p6, rfl⟩, rfl, HX⟩ := hcut
    obtain ⟨r0, r1, r2, _⟩ := HB0.out.below HX.out
    have HS := Lib.hid ((HST.out.below HA.out).below HX.out)
    have HK2 := Lib.hid ((HK.out.keep HA.out HK.out.lt).keep HX.out (HK.out.keep HA.out HK.out.lt).lt)
    clear HC HB0 HST HA HX HK c0 c1 y0 y1 c2 c3 c4
    go_wp2_with fail
    refine (HN.out _).mono ?_
    rintro e w2 ⟨rfl, hb2⟩
    have HS2 := Lib.hid (HS.out.below hb2)
    have HK3 := Lib.hid (HK2.out.keep hb2 HK2.out.lt)
    have HV2 := Lib.hid (HV.out w2 HS2.out)
    clear hb2 HS HK2 HN r0 r1 r2
    go_wp2_with fail
    refine HV2.out.mono ?_
    rintro e w3 ⟨rfl, h3⟩
    have HK4 := Lib.hid (HD0.out.keep h3.1 HQ.out)
    have HP3 := Lib.hid (HP.out w3 h3.1 HK4.out)
    have HS3 := Lib.hid h3
    clear h3 HV2 HK3
    go_wp2_with fail
    refine HP3.out.mono ?_
    rintro e w4 ⟨rfl, h4⟩
    have HW4 := Lib.hid (HS3.out.1.trans (h4.mono (Nat.le_of_lt HS3.out.lt)))
    have HK5 := Lib.hid (HD0.out.keep HW4.out HQ.out)
    clear h4
    go_wp2_with fail
    exact bodyPost_ret (v := .string T') (by simp [results, Tryz.results27, go_sem]) rfl ⟨rfl, HW4.out, HK5.out⟩
end Go.Proofs.YtibjogbalmbeeaaGreatDoor

namespace Go.Proofs.YtibjogbalmbeeaaGreatDoor
open Go.RowKit

set_option maxRecDepth 100000 in
set_option maxHeartbeats 2000000 in
theorem desk_line_c {w W : World} {g q : Nat} {s : ByteArray} {L m : Value} {hx sl : Bool} {x : Nat} {T' : ByteArray} (H : St w W g s 0 (.pointer (some ⟨q, 0, none⟩)) L 0 (-1) [])
    (hD : DkB W q m hx sl) (hq : q < g) (hs : s.size ≤ 100000) (hk : knd s 0 = 1)
    (hdr : ((txt s 0).toList == [100, 114, 111, 112]) = false) (hcm : ∀ U, Calls Tryz.prog 52 #[.string (txt s 0)] U fun e w' => e = .returned (.bool false) ∧ w' = U)
    (hnm : ∀ U, Calls Tryz.prog 55 #[.agg #[.int .i64 1, .string (txt s 0), .int .i64 (plc s 0 : Int)]] U fun e w' => e = .returned (.bool false) ∧ Below U.heap.size U w')
    (hV : ∀ U, St w U g s 0 (.pointer (some ⟨q, 0, none⟩)) L 0 (-1) [] → Calls Tryz.prog 58 #[.pointer (some ⟨g, 0, none⟩)] U fun e w' => e = .returned (.int .u64 (x : Int)) ∧ St w w' g s s.size (.pointer (some ⟨q, 0, none⟩)) L 0 (-1) [])
    (hP : ∀ U, Below g w U → DkB U q m hx sl → Calls Tryz.prog 59 #[.pointer (some ⟨q, 0, none⟩), .int .u64 (x : Int)] U fun e w' => e = .returned (.string T') ∧ Below U.heap.size U w') :
    Calls Tryz.prog 27 #[.pointer (some ⟨q, 0, none⟩), .pointer (some ⟨g, 0, none⟩)] W fun e w' => e = .returned (.string T') ∧ Below g w w' ∧ DkB w' q m hx sl := by
  have hDw : ∀ U, St w U g s 0 (.pointer (some ⟨q, 0, none⟩)) L 0 (-1) [] → Below g W U → DkB U q m hx sl := fun U _ hb => hD.keep hb hq
  obtain ⟨c2, c3, c4⟩ := H.piece
  have hcut := fun U => ccut_walk s (nxt s 0) (nxt_le (Nat.zero_le _)) hs U
  rw [hk] at c2
  have HCm := Lib.hid hcm
  obtain ⟨hb0, v, hr, ho⟩ := id H
  have c0 : W.cell? ⟨g, 0, none⟩ = some (.string s) := hr.cell 0
  have c1 : W.cell? ⟨g, 1, none⟩ = some (.int .i64 (nxt s 0 : Int)) := hr.cell 1
  have hlt := hr.lt
  have HD0 := Lib.hid (show DkB w q m hx sl from (hb0.block q hq).symm.trans hD)
  have HST := Lib.hid H
  have HV := Lib.hid hV
  have HP := Lib.hid hP
  have HK := Lib.hid hD
  have HG := Lib.hid hlt
  have HQ := Lib.hid hq
  generalize txt s 0 = t at *
  generalize plc s 0 = a at *
  generalize nxt s 0 = n at *
  generalize (cutK s (ovr pBln s n)).2 = n' at *
  generalize (cutK s (ovr pBln s n)).1 = k' at *
  generalize cutT s (ovr pBln s n) = t' at *
  generalize ovr pBln s n = a' at *
  have HC := Lib.hid hcut
  have HN := Lib.hid hnm
  have hA := below_alloc' W (.cells #[.int .i64 1, .string t, .int .i64 (a : Int)] 66)
  have HB0 := Lib.hid (show Box3 (W.alloc (.cells #[.int .i64 1, .string t, .int .i64 (a : Int)] 66)) W.heap.size (.int .i64 1) (.string t) (.int .i64 (a : Int)) from ⟨by simp, by simp, by simp, by simp, by simp, by simp, by simp⟩)
  have y0 := cell_kept hA c0
  have y1 := cell_kept hA c1
  have HA := Lib.hid hA
  clear H hD hq hs hk hcm hV hP hDw hcut hnm hb0 hr ho hlt hA
  go_enter Tryz.func27, Tryz.ntmps27
  go_upto_region 13 with (refine (HCm.out _).mono ?_; rintro e wq ⟨rfl, hw⟩; (have h0 := hw.symm); subst h0; clear hw)
  go_cut [6, 7] (fun s6 s7 wx => (∃ p, s6 = .pointer (some p)) ∧ s7 = .int .i64 (n' : Int) ∧ Hid (Below (W.alloc (.cells #[.int .i64 1, .string t, .int .i64 (a : Int)] 66)).heap.size (W.alloc (.cells #[.int .i64 1, .string t, .int .i64 (a : Int)] 66)) wx))
  case first =>
    have HZ := Lib.hid (show Box3 ((W.alloc (.cells #[.int .i64 1, .string t, .int .i64 (a : Int)] 66)).alloc (.cells #[.int .i64 0, .string ⟨#[]⟩, .int .i64 0] 66)).drew (W.heap.size + 1) (.int .i64 0) (.string ⟨#[]⟩) (.int .i64 0) from (show Box3 ((W.alloc (.cells #[.int .i64 1, .string t, .int .i64 (a : Int)] 66)).alloc (.cells #[.int .i64 0, .string ⟨#[]⟩, .int .i64 0] 66)) (W.heap.size + 1) (.int .i64 0) (.string ⟨#[]⟩) (.int .i64 0) from ⟨by simp, by simp, by simp, by simp, by simp, by simp, by simp⟩))
    have v0 := cell_kept (below_alloc' _ (.cells #[.int .i64 0, .string ⟨#[]⟩, .int .i64 0] 66)) y0
    have v1 := cell_kept (below_alloc' _ (.cells #[.int .i64 0, .string ⟨#[]⟩, .int .i64 0] 66)) y1
    go_region_with ((go_at_call 50; first
      | (refine (HC.out (W.alloc (.cells #[.int .i64 1, .string t, .int .i64 (a : Int)] 66)).drew).mono ?_; rintro e w1 ⟨rfl, hb⟩; have HB := Lib.hid hb; clear hb)
      | (refine (HC.out ((W.alloc (.cells #[.int .i64 1, .string t, .int .i64 (a : Int)] 66)).alloc (.cells #[.int .i64 0, .string ⟨#[]⟩, .int .i64 0] 66)).drew).mono ?_; rintro e w1 ⟨rfl, hb⟩; obtain ⟨x0, x1, x2, z0, z1, z2, _⟩ := HZ.out.below hb; have HB := Lib.hid hb; clear hb)))
    all_goals go_wp2_with fail
    all_goals go_meet
    all_goals first
      | exact ⟨⟨_, rfl⟩, rfl, Lib.hid (below_chain ((below_dn (Below.refl _ _) 1).trans HB.out) (below_alloc' _ _))⟩
      | exact ⟨⟨_, rfl⟩, rfl, Lib.hid ((((below_chain (below_dn (below_alloc' _ _) 1) HB.out).setCell (p := ⟨W.heap.size + 1, 0, none⟩) (by simp) _).setCell (p := ⟨W.heap.size + 1, 1, none⟩) (by simp) _).setCell (p := ⟨W.heap.size + 1, 2, none⟩) (by simp) _)⟩
  case rest =>
    obtain ⟨⟨p6, rfl⟩, rfl, HX⟩ := hcut
    obtain ⟨r0, r1, r2, _⟩ := HB0.out.below HX.out
    have HS := Lib.hid ((HST.out.below HA.out).below HX.out)
    have HK2 := Lib.hid ((HK.out.keep HA.out HK.out.lt).keep HX.out (HK.out.keep HA.out HK.out.lt).lt)
    clear HC HB0 HST HA HX HK c0 c1 y0 y1 c2 c3 c4
    go_wp2_with fail
    refine (HN.out _).mono ?_
    rintro e w2 ⟨rfl, hb2⟩
    have HS2 := Lib.hid (HS.out.below hb2)
    have HK3 := Lib.hid (HK2.out.keep hb2 HK2.out.lt)
    have HV2 := Lib.hid (HV.out w2 HS2.out)
    clear hb2 HS HK2 HN r0 r1 r2
    go_wp2_with fail
    refine HV2.out.mono ?_
    rintro e w3 ⟨rfl, h3⟩
    have HK4 := Lib.hid (HD0.out.keep h3.1 HQ.out)
    have HP3 := Lib.hid (HP.out w3 h3.1 HK4.out)
    have HS3 := Lib.hid h3
    clear h3 HV2 HK3
    go_wp2_with fail
    refine HP3.out.mono ?_
    rintro e w4 ⟨rfl, h4⟩
    have HW4 := Lib.hid (HS3.out.1.trans (h4.mono (Nat.le_of_lt HS3.out.lt)))
    have HK5 := Lib.hid (HD0.out.keep HW4.out HQ.out)
    clear h4
    go_wp2_with fail
    exact bodyPost_ret (v := .string T') (by simp [results, Tryz.results27, go_sem]) rfl ⟨rfl, HW4.out, HK5.out⟩
end Go.Proofs.YtibjogbalmbeeaaGreatDoor
