/- Walks of calc: the reader's block; deeper and step. · Walks of calc: the reader's stack. · Walks of calc: fail, is, told, must. · Walks of calc: pop. · Walks of calc: literal. · Walks of calc: deeper at its end, literal's fault. -/
import Derived.Test.YtibjogbalmbeeaaGreatDoorU07

namespace Go.Proofs.YtibjogbalmbeeaaGreatDoor
open Go.RowKit

/-- The reader's ten cells. -/
def rdCells (s : ByteArray) (n k : Nat) (t : ByteArray) (a : Nat) (D L : Value) (d : Nat) (v : Value) (h : Int) : Array Value :=
  #[.string s, .int .i64 (n : Int), .int .i64 (k : Int), .string t, .int .i64 (a : Int), D, L, .int .i64 (d : Int), v, .int .i64 h]
/-- Block g is a reader: its text, where it reads on, the piece in hand, the desk, the library, the depth, the values, the mode. -/
def RdB (w : World) (g : Nat) (s : ByteArray) (n k : Nat) (t : ByteArray) (a : Nat) (D L : Value) (d : Nat) (v : Value) (h : Int) : Prop :=
  w.heap[g]? = some (.cells (rdCells s n k t a D L d v h) 71 (0, 0))
theorem RdB.cell {w : World} {g : Nat} {s n k t a D L d v h} (H : RdB w g s n k t a D L d v h) (j : Nat) : w.cell? ⟨g, j, none⟩ = (rdCells s n k t a D L d v h)[j]? := cell_of_row w g j _ _ (0, 0) H
theorem RdB.frozen {w : World} {g : Nat} {s n k t a D L d v h} (H : RdB w g s n k t a D L d v h) (j : Nat) : w.frozen? ⟨g, j, none⟩ = false := by
  unfold RdB at H; simp [World.frozen?, H]
theorem RdB.lt {w : World} {g : Nat} {s n k t a D L d v h} (H : RdB w g s n k t a D L d v h) : g < w.heap.size := (Array.getElem?_eq_some_iff.1 H).1
theorem RdB.below {w w1 : World} {g : Nat} {s n k t a D L d v h} (H : RdB w g s n k t a D L d v h) (hb : Below w.heap.size w w1) : RdB w1 g s n k t a D L d v h := (hb.block g H.lt).trans H
theorem RdB.far {w : World} {g : Nat} {s n k t a D L d v h} (H : RdB w g s n k t a D L d v h) {p : Addr} (hp : g ≠ p.block) (u : Value) : RdB (w.setCell p u) g s n k t a D L d v h := (Below.heap_setCell w p u g hp).trans H
theorem RdB.dn {w : World} {g : Nat} {s n k t a D L d v h} (H : RdB w g s n k t a D L d v h) (m : Nat) : RdB (w.drewN m) g s n k t a D L d v h := H
theorem RdB.after {w w0 w1 : World} {g : Nat} {s n k t a D L d v h} (H : RdB w g s n k t a D L d v h) (e : w0.heap = w.heap) (hb : Below w0.heap.size w0 w1) : RdB w1 g s n k t a D L d v h := by
  unfold RdB at H; rw [← e] at H; exact RdB.below (w := w0) H hb
theorem set_row {w : World} {g j : Nat} {A : Array Value} {ty} {u : Value} (H : w.heap[g]? = some (.cells A ty (0, 0))) : (w.setCell ⟨g, j, none⟩ u).heap[g]? = some (.cells (A.setIfInBounds j u) ty (0, 0)) := by
  simp [World.setCell, Array.getElem?_modify, H]
theorem RdB.setDepth {w : World} {g : Nat} {s n k t a D L d v h} (H : RdB w g s n k t a D L d v h) (d' : Nat) : RdB (w.setCell ⟨g, 7, none⟩ (.int .i64 (d' : Int))) g s n k t a D L d' v h := set_row H
theorem RdB.setNext {w : World} {g : Nat} {s n k t a D L d v h} (H : RdB w g s n k t a D L d v h) (n' : Nat) : RdB (w.setCell ⟨g, 1, none⟩ (.int .i64 (n' : Int))) g s n' k t a D L d v h := set_row H
theorem RdB.setVals {w : World} {g : Nat} {s n k t a D L d v h} (H : RdB w g s n k t a D L d v h) (v' : Value) : RdB (w.setCell ⟨g, 8, none⟩ v') g s n k t a D L d v' h := set_row H
theorem RdB.setPiece {w : World} {g : Nat} {s n k t a D L d v h} (H : RdB w g s n k t a D L d v h) (k' : Nat) (t' : ByteArray) (a' : Nat) : RdB (((w.setCell ⟨g, 2, none⟩ (.int .i64 (k' : Int))).setCell ⟨g, 3, none⟩ (.string t')).setCell ⟨g, 4, none⟩ (.int .i64 (a' : Int))) g s n k' t' a' D L d v h := set_row (set_row (set_row H))

set_option maxRecDepth 100000 in
theorem deeper_walk {w : World} {g : Nat} {s n k t a D L d v h} (H : RdB w g s n k t a D L d v h) (hd : d < 50) :
    Calls Tryz.prog 179 #[.pointer (some ⟨g, 0, none⟩)] w fun e w' => e = .returned (.tuple #[]) ∧ w' = w.setCell ⟨g, 7, none⟩ (.int .i64 ((d + 1 : Nat) : Int)) := by
  have c7 : w.cell? ⟨g, 7, none⟩ = some (.int .i64 (d : Int)) := H.cell 7
  have f7 := H.frozen 7
  have g1 : ((d : Int) == 50) = false := by rw [beq_eq_false_iff_ne]; omega
  have kw : IntKind.i64.wrap ((d : Int) + 1) = ((d + 1 : Nat) : Int) := by rw [IntKind.wrap_i64]; omega
  obtain ⟨d1, hd1⟩ : ∃ d1, d + 1 = d1 := ⟨_, rfl⟩
  rw [hd1] at kw ⊢
  clear H hd hd1
  go_enter Tryz.func179, Tryz.ntmps179
  go_wp2_with fail
  exact bodyPost_end (results_none (by rfl) _ _ _) (by rfl) ⟨rfl, rfl⟩

/-- Nothing but block g differs, and what is new: 'grownBy (some g)'. -/
theorem grb_below {w w' : World} {g : Nat} (h : w.grownBy w' (some g)) (hg : g ≤ w.heap.size) : Below g w w' := ⟨h.os, h.tape, h.output, h.size, fun k hk => h.block k (by omega) (fun e => by injection e with e; omega)⟩
theorem grb_of {w w' : World} (g : Nat) (h : Below w.heap.size w w') : w.grownBy w' (some g) := ⟨h.os, h.tape, h.output, h.size, fun k hk _ => h.block k hk⟩
theorem grb_trans {w w1 w2 : World} {g : Nat} (h1 : w.grownBy w1 (some g)) (h2 : w1.grownBy w2 (some g)) : w.grownBy w2 (some g) :=
  ⟨h2.os.trans h1.os, h2.tape.trans h1.tape, h2.output.trans h1.output, Nat.le_trans h1.size h2.size, fun k hk he => (h2.block k (Nat.lt_of_lt_of_le hk h1.size) he).trans (h1.block k hk he)⟩
theorem grb_set {w w1 : World} {g : Nat} (h : w.grownBy w1 (some g)) (j : Nat) (u : Value) : w.grownBy (w1.setCell ⟨g, j, none⟩ u) (some g) :=
  ⟨h.os, h.tape, h.output, by have := h.size; simp; omega, fun k hk he => (Below.heap_setCell w1 ⟨g, j, none⟩ u k (fun e => he (by rw [e]))).trans (h.block k hk he)⟩
theorem grb_dn {w w1 : World} {g : Nat} (h : w.grownBy w1 (some g)) (n : Nat) : w.grownBy (w1.drewN n) (some g) := ⟨h.os, h.tape, h.output, h.size, h.block⟩

set_option maxRecDepth 100000 in
set_option maxHeartbeats 2000000 in
theorem step_walk {w : World} {g : Nat} {s n k t a D L d v h} (H : RdB w g s n k t a D L d v h) (hn : n ≤ s.size) (hs : s.size ≤ 100000) :
    Calls Tryz.prog 26 #[.pointer (some ⟨g, 0, none⟩)] w fun e w' => e = .returned (.tuple #[]) ∧ RdB w' g s (cutK s (ovr pBln s n)).2 (cutK s (ovr pBln s n)).1 (cutT s (ovr pBln s n)) (ovr pBln s n) D L d v h ∧ w.grownBy w' (some g) := by
  have c0 : w.cell? ⟨g, 0, none⟩ = some (.string s) := H.cell 0
  have c1 : w.cell? ⟨g, 1, none⟩ = some (.int .i64 (n : Int)) := H.cell 1
  have HH := Lib.hid H
  have HC := Lib.hid (fun W => ccut_walk s n hn hs W)
  generalize ovr pBln s n = b at *
  obtain ⟨n', hn'⟩ : ∃ n', (cutK s b).2 = n' := ⟨_, rfl⟩
  obtain ⟨k', hk'⟩ : ∃ k', (cutK s b).1 = k' := ⟨_, rfl⟩
  obtain ⟨t', ht'⟩ : ∃ t', cutT s b = t' := ⟨_, rfl⟩
  rw [hn', hk', ht'] at HC ⊢
  clear hn' hk' ht' hn hs H
  go_enter Tryz.func26, Tryz.ntmps26
  have f1 := HH.out.frozen 1
  have f2 := HH.out.frozen 2
  have f3 := HH.out.frozen 3
  have f4 := HH.out.frozen 4
  go_region_with ((go_at_call 50; go_loud (refine (HC.out w.drew).mono ?_; rintro e w1 ⟨rfl, hb⟩; have r1 := HH.out.after (w0 := w.drew) rfl hb; have q1 := r1.frozen 1; have q2 := r1.frozen 2; have q3 := r1.frozen 3; have q4 := r1.frozen 4; have x1 : w1.cell? ⟨g, 1, none⟩ = some (.int .i64 (n : Int)) := r1.cell 1; have x2 : w1.cell? ⟨g, 2, none⟩ = some (.int .i64 (k : Int)) := r1.cell 2; have x3 : w1.cell? ⟨g, 3, none⟩ = some (.string t) := r1.cell 3; have x4 : w1.cell? ⟨g, 4, none⟩ = some (.int .i64 (a : Int)) := r1.cell 4; have R1 := Lib.hid r1; have HB := Lib.hid hb; clear r1 hb)))
  all_goals
    refine bodyPost_end (results_none (by rfl) _ _ _) (by rfl) ⟨rfl, ?_, ?_⟩
    · first
      | exact ((R1.out.dn _).setPiece _ _ _).setNext _
      | exact (R1.out.setPiece _ _ _).setNext _
    · have hb0 : w.grownBy w1 (some g) := grb_trans (grb_dn (grb_of g (Below.refl w.heap.size w)) 1) (grb_of g HB.out)
      first
      | exact grb_set (grb_set (grb_set (grb_set (grb_dn hb0 _) _ _) _ _) _ _) _ _
      | exact grb_set (grb_set (grb_set (grb_set hb0 _ _) _ _) _ _) _ _
end Go.Proofs.YtibjogbalmbeeaaGreatDoor

namespace Go.Proofs.YtibjogbalmbeeaaGreatDoor
open Go.RowKit

theorem Tryz.infoV : (Tryz.prog.info? 23).map (fun i => (i.zero, i.size, i.bytes)) = some (some (.int .u64 0), 1, 8) := by kernel_rfl
/-- The value v is a slice of the call's own, from block B on, of the words l. -/
def OwV (w : World) (B : Nat) (v : Value) (l : List Nat) : Prop := w.ownsRow B 23 1 v l.length (U l).toList
theorem OwV.nil (w : World) (B : Nat) : OwV w B (.slice none 0 0) [] := World.ownsRow_nil w B _ 1
theorem OwV.block {w : World} {B : Nat} {v : Value} {l : List Nat} (h : OwV w B v l) : ∀ k, v.ownBlock = some k → B ≤ k := fun k hk => (World.ownsRow.lt h k hk).1
theorem OwV.alloc {w : World} {B : Nat} {v : Value} {l : List Nat} (h : OwV w B v l) (o : Obj) : OwV (w.alloc o) B v l := World.ownsRow.alloc h o
theorem OwV.below {w w' : World} {B : Nat} {v : Value} {l : List Nat} (h : OwV w B v l) (hb : Below w.heap.size w w') : OwV w' B v l :=
  World.ownsRow.kept h (row := none) ⟨hb.os, hb.tape, hb.output, hb.size, fun j hj _ => hb.block j hj⟩ (by cases hv : v.ownBlock <;> simp)
theorem OwV.far {w : World} {B : Nat} {v : Value} {l : List Nat} (h : OwV w B v l) {p : Addr} (hp : p.block < B) (u : Value) : OwV (w.setCell p u) B v l :=
  World.ownsRow.kept h (row := some p.block) ⟨rfl, rfl, rfl, by simp, fun j _ hj => Below.heap_setCell w p u j (fun e => hj (by rw [e]))⟩ (by
    right
    intro e
    have := h.block _ e
    omega)
theorem OwV.grb {w w' : World} {g : Nat} {v : Value} {l : List Nat} (h : OwV w (g + 1) v l) (hg : w.grownBy w' (some g)) : OwV w' (g + 1) v l :=
  World.ownsRow.kept h hg (by
    right
    intro e
    have := h.block _ e
    omega)
theorem OwV.shape {w : World} {B : Nat} {v : Value} {l : List Nat} (h : OwV w B v l) : ∃ A c, v = .slice A l.length c := by
  rcases h.2 with ⟨e1, h0⟩ | ⟨g, cap, cur, e1, _⟩
  · exact ⟨none, 0, by rw [e1, h0]⟩
  · exact ⟨_, _, e1⟩
theorem below_grownV {B : Nat} {w W W' : World} {row : Option Nat} (h : Below B w W) (hB : B ≤ W.heap.size) (g : W.grownBy W' row) (hr : ∀ k, row = some k → B ≤ k) : Below B w W' := by
  refine ⟨g.os.trans h.os, g.tape.trans h.tape, g.output.trans h.output, Nat.le_trans h.size g.size, fun i hi => ?_⟩
  rw [g.block i (by omega) (fun e => by have := hr i e.symm; omega)]
  exact h.block i hi
/-- append(s, news...) where s is a slice of the call's own. -/
theorem wpList_appendV {W : World} {ops : Array Oper} {rest : List Oper} {o : Oper} {a : Act} {Q : Exit → Act → World → Prop} (hgd : o.guard = none) (s x : Operand)
    (ho : o.op = .call { callee := .builtin .append, args := #[s, x], argTypes := #[67, 67] }) (B : Nat) (v : Value) (l : List Nat) (hs : a.eval s = v) (hown : OwV W B v l)
    (ad : Addr) (m c : Nat) (news : List Nat) (hx : a.eval x = .slice (some ad) m c) (hm : news.length = m) (hnews : ∀ j, j < m → W.cell? (ad.add j) = some (.int .u64 ((el news j : Nat) : Int)))
    (hlen : l.length + m ≤ 1000000) (hB : B ≤ W.heap.size)
    (h : ∀ v' w', OwV w' B v' (l ++ news) → (∀ w, Below B w W → Below B w w') → wpList Tryz.prog ops Q rest (a.put o.dst v') w') : wpList Tryz.prog ops Q (o :: rest) a W := by
  obtain ⟨i0, hi, hz0, hz1, hz2⟩ := info_parts Tryz.infoV
  refine wpList_append_own W hgd s x 67 ho B 23 i0 (.int .u64 0) 1 8 Tryz.underlying67 hi hz0 hz1 hz2 rfl (by decide) v l.length (U l).toList hs hown ad m c (U news).toList hx
    (by rw [Array.length_toList, U_size, hm]; omega) (fun j u hu => ?_) (fun u hu => ?_) (by unfold maxLen; omega) (by omega) hB (fun v' w' h1 h2 _ => ?_)
  · have hj : j < news.length := by
      have := (List.getElem?_eq_some_iff.1 hu).1
      rwa [Array.length_toList, U_size] at this
    rw [Array.getElem?_toList, U_get hj] at hu
    rw [hnews j (by omega)]; exact hu
  · simp only [U, List.mem_map] at hu
    obtain ⟨y, _, rfl⟩ := hu
    rfl
  · rw [show (U l).toList ++ (U news).toList = (U (l ++ news)).toList by simp [U]] at h1
    refine h v' w' (by unfold OwV; rw [List.length_append, hm]; exact h1) (fun w hb => below_grownV hb hB h2 hown.block)
theorem new_cellV (W : World) (x : Nat) : ∀ j, j < 1 → (W.alloc (.cells #[.int .u64 (x : Int)] 23)).cell? ((⟨W.heap.size, 0, none⟩ : Addr).add j) = some (.int .u64 ((el [x] j : Nat) : Int)) := fun j hj => by
  obtain rfl : j = 0 := by omega
  simp [Addr.add, el]

set_option maxRecDepth 100000 in
set_option maxHeartbeats 2000000 in
theorem push_walk {w : World} {g : Nat} {s n k t a D L d v h} {l : List Nat} (H : RdB w g s n k t a D L d v h) (HO : OwV w (g + 1) v l) (x : Nat) (hl : l.length < 100000) :
    Calls Tryz.prog 167 #[.pointer (some ⟨g, 8, none⟩), .int .u64 (x : Int)] w fun e w' => e = .returned (.tuple #[]) ∧ ∃ v', RdB w' g s n k t a D L d v' h ∧ OwV w' (g + 1) v' (l ++ [x]) ∧ Below g w w' := by
  have c8 : w.cell? ⟨g, 8, none⟩ = some v := H.cell 8
  have f8 := H.frozen 8
  have hlt : g < w.heap.size := H.lt
  have hb := below_alloc' w (.cells #[.int .u64 (x : Int)] 23)
  have HB := Lib.hid hb
  have HH := Lib.hid H
  have HV := Lib.hid HO
  have HL := Lib.hid hl
  have HLt := Lib.hid hlt
  clear hb H HO hl hlt
  go_enter Tryz.func167, Tryz.ntmps167
  go_wp2_with (at_builtin; go_loud (refine wpList_appendV rfl (.tmp 8) (.tmp 10) rfl (g + 1) _ l rfl (HV.out.alloc _) ⟨w.heap.size, 0, none⟩ 1 1 [x] rfl rfl (new_cellV w x) (by have := HL.out; omega) (by have := HLt.out; simp; omega) (fun v' w1 h1 h2 => ?_); obtain ⟨A', c', hv⟩ := h1.shape; rw [List.length_append, List.length_singleton] at hv; subst hv; have hb2 : Below (g + 1) w w1 := h2 w (HB.out.mono (by have := HLt.out; omega)); have hR : RdB w1 g s n k t a D L d v h := (hb2.block g (by omega)).trans HH.out; have x8 : w1.cell? ⟨g, 8, none⟩ = some v := hR.cell 8; have y8 := hR.frozen 8; have HR := Lib.hid hR; have H1 := Lib.hid h1; have HB2 := Lib.hid hb2; clear hR h1 hb2 h2 c8 f8))
  refine bodyPost_end (results_none (by rfl) _ _ _) (by rfl) ⟨rfl, _, HR.out.setVals _, H1.out.far (p := ⟨g, 8, none⟩) (Nat.lt_succ_self g) _, (HB2.out.mono (Nat.le_succ g)).setCell (Nat.le_refl _) _⟩
end Go.Proofs.YtibjogbalmbeeaaGreatDoor

namespace Go.Proofs.YtibjogbalmbeeaaGreatDoor
open Go.RowKit

/-- What the reader gives up with: where, and the error. -/
def cfault (a e : Int) : PanicEntry := { v := .iface 57 (.agg #[.int .i64 a, .int .i64 e]), recovered := false }

set_option maxRecDepth 100000 in
theorem cfail_walk {w : World} {g : Nat} {s n k t a D L d v h} (H : RdB w g s n k t a D L d v h) (x : Int) :
    Calls Tryz.prog 53 #[.pointer (some ⟨g, 0, none⟩), .int .i64 x] w fun e w' => e = .panicked [cfault (a : Int) x] ∧ w' = w := by
  have c4 : w.cell? ⟨g, 4, none⟩ = some (.int .i64 (a : Int)) := H.cell 4
  clear H
  go_enter Tryz.func53, Tryz.ntmps53
  go_wp2
  exact ⟨rfl, rfl, rfl⟩

theorem cstr_eq (s t : ByteArray) : (s.toList == t.toList) = decide (s = t) := by
  rw [Lib.toList_data, Lib.toList_data]
  by_cases h : s = t
  · subst h; simp
  · rw [decide_eq_false h, beq_eq_false_iff_ne]
    intro e
    apply h
    cases s with | mk a => cases t with | mk b =>
      have : a = b := Array.toList_inj.1 e
      rw [this]
/-- Is the piece the mark m? -/
def isM (k : Nat) (t m : ByteArray) : Bool := decide (k = 3) && decide (t = m)
set_option maxRecDepth 100000 in
set_option maxHeartbeats 1000000 in
theorem is_walk (k : Nat) (t : ByteArray) (a : Nat) (m : ByteArray) (w : World) :
    Calls Tryz.prog 56 #[.agg #[.int .i64 (k : Int), .string t, .int .i64 (a : Int)], .string m] w fun e w' => e = .returned (.bool (isM k t m)) ∧ Below w.heap.size w w' := by
  have hb := below_alloc' w (.cells #[.int .i64 (k : Int), .string t, .int .i64 (a : Int)] 66)
  by_cases hk : k = 3
  · have g1 : ((k : Int) == 3) = true := by rw [beq_iff_eq]; omega
    have g2 : isM k t m = (t.toList == m.toList) := by rw [cstr_eq]; simp [isM, hk]
    rw [g2]
    clear hk g2
    go_enter Tryz.func56, Tryz.ntmps56
    go_wp2
    refine bodyPost_ret (v := .bool _) (by simp [results, Tryz.results56, go_sem]) rfl ⟨rfl, hb⟩
  · have g1 : ((k : Int) == 3) = false := by rw [beq_eq_false_iff_ne]; omega
    have g2 : isM k t m = false := by simp [isM, hk]
    rw [g2]
    clear hk g2
    go_enter Tryz.func56, Tryz.ntmps56
    go_wp2
    refine bodyPost_ret (v := .bool _) (by simp [results, Tryz.results56, go_sem]) rfl ⟨rfl, hb⟩

set_option maxRecDepth 100000 in
theorem ctold_walk {w : World} {g : Nat} {s n k t a D L d v h} {l : List Nat} (H : RdB w g s n k t a D L d v h) (HO : OwV w (g + 1) v l) (x : Nat) (y : Int) (hl : l.length < 100000) :
    Calls Tryz.prog 142 #[.pointer (some ⟨g, 0, none⟩), .int .u64 (x : Int), .int .i64 y] w fun e w' => e = .returned (.tuple #[]) ∧ ∃ v', RdB w' g s n k t a D L d v' h ∧ OwV w' (g + 1) v' (l ++ [x]) ∧ Below g w w' := by
  have HP := Lib.hid (push_walk H HO x hl)
  clear H HO hl
  go_enter Tryz.func142, Tryz.ntmps142
  go_wp2_with fail
  refine HP.out.mono ?_
  rintro e w' ⟨rfl, hw⟩
  have HW := Lib.hid hw
  clear hw
  go_wp2_with fail
  exact bodyPost_end (results_none (by rfl) _ _ _) (by rfl) ⟨rfl, HW.out⟩

/-- The piece in the reader's hand, as 'is' takes it. -/
theorem RdB.piece {w : World} {g : Nat} {s n k t a D L d v h} (H : RdB w g s n k t a D L d v h) :
    w.cell? ⟨g, 2, none⟩ = some (.int .i64 (k : Int)) ∧ w.cell? ⟨g, 3, none⟩ = some (.string t) ∧ w.cell? ⟨g, 4, none⟩ = some (.int .i64 (a : Int)) := ⟨H.cell 2, H.cell 3, H.cell 4⟩

set_option maxRecDepth 100000 in
theorem must_yes' {w : World} {g : Nat} {s n k t a D L d v h} (H : RdB w g s n k t a D L d v h) (m : ByteArray) (hm : isM k t m = true) (hn : n ≤ s.size) (hs : s.size ≤ 100000) :
    Calls Tryz.prog 181 #[.pointer (some ⟨g, 0, none⟩), .string m] w fun e w' => e = .returned (.tuple #[]) ∧ RdB w' g s (cutK s (ovr pBln s n)).2 (cutK s (ovr pBln s n)).1 (cutT s (ovr pBln s n)) (ovr pBln s n) D L d v h ∧ w.grownBy w' (some g) := by
  obtain ⟨c2, c3, c4⟩ := H.piece
  have HI := Lib.hid (fun W => is_walk k t a m W)
  have hlt := H.lt
  have HS := Lib.hid (fun (W : World) (hb : Below w.heap.size w W) => step_walk (w := W) (H.below hb) hn hs)
  have HLt := Lib.hid hlt
  rw [hm] at HI
  clear H hlt hm hn hs
  generalize (cutK s (ovr pBln s n)).2 = n' at *
  generalize (cutK s (ovr pBln s n)).1 = k' at *
  generalize cutT s (ovr pBln s n) = t' at *
  generalize ovr pBln s n = b at *
  go_enter Tryz.func181, Tryz.ntmps181
  go_wp2_with fail
  refine (HI.out _).mono ?_
  rintro e w1 ⟨rfl, hb⟩
  have HS1 := Lib.hid (HS.out w1 hb)
  have HB := Lib.hid hb
  clear hb
  go_wp2_with fail
  refine HS1.out.mono ?_
  rintro e w2 ⟨rfl, hr, hb2⟩
  have HR := Lib.hid hr
  have HB2 := Lib.hid hb2
  clear hr hb2
  go_wp2_with fail
  exact bodyPost_end (results_none (by rfl) _ _ _) (by rfl) ⟨rfl, HR.out, grb_trans (grb_of g HB.out) HB2.out⟩

end Go.Proofs.YtibjogbalmbeeaaGreatDoor

namespace Go.Proofs.YtibjogbalmbeeaaGreatDoor
open Go.RowKit

theorem OwV.front {w : World} {B q cap : Nat} {l : List Nat} {x : Nat} (h : OwV w B (.slice (some ⟨q, 0, none⟩) (l.length + 1) cap) (l ++ [x])) : OwV w B (.slice (some ⟨q, 0, none⟩) l.length cap) l := by
  rcases h.2 with ⟨e1, h0⟩ | ⟨q2, cap2, cur, e1, h1, h2, h3, h4, h5, h6⟩
  · cases e1
  · injection e1 with e2 e3 e4
    injection e2 with e2
    injection e2 with e2
    subst e2; subst e4
    refine ⟨by simp [U], .inr ⟨q, cap, cur, rfl, h1, h2, by omega, h4, h5, ?_⟩⟩
    have h7 := congrArg (List.take l.length) h6
    rw [List.take_take, List.length_append, List.length_singleton, Nat.mul_one, Nat.min_eq_left (by omega)] at h7
    rw [Nat.mul_one, h7]
    simp [U]
theorem OwV.last {w : World} {B q cap : Nat} {l : List Nat} {x : Nat} (h : OwV w B (.slice (some ⟨q, 0, none⟩) (l.length + 1) cap) (l ++ [x])) : w.cell? ⟨q, l.length, none⟩ = some (.int .u64 (x : Int)) := by
  have h2 : w.ownsRow B 23 1 (.slice (some ⟨q, 0, none⟩) (l.length + 1) cap) (l ++ [x]).length (U (l ++ [x])).toList := h
  have h3 := h2.cells (g := q) rfl l.length (.int .u64 (x : Int)) (by
    rw [Array.getElem?_toList, U_get (by simp)]
    simp [el])
  rwa [add_flat] at h3
theorem OwV.full {w : World} {B : Nat} {v : Value} {l : List Nat} {x : Nat} (h : OwV w B v (l ++ [x])) : ∃ q cap, v = .slice (some ⟨q, 0, none⟩) (l.length + 1) cap ∧ l.length + 1 ≤ cap := by
  rcases h.2 with ⟨e1, h0⟩ | ⟨q2, cap2, cur, e1, h1, h2, h3, h4, h5, h6⟩
  · simp at h0
  · exact ⟨q2, cap2, by rw [e1]; simp, by simpa using h3⟩

set_option maxRecDepth 100000 in
set_option maxHeartbeats 2000000 in
theorem pop_walk {w : World} {g : Nat} {s n k t a D L d v h} {l : List Nat} {x : Nat} (H : RdB w g s n k t a D L d v h) (HO : OwV w (g + 1) v (l ++ [x])) (hl : l.length < 100000) :
    Calls Tryz.prog 105 #[.pointer (some ⟨g, 8, none⟩)] w fun e w' => e = .returned (.int .u64 (x : Int)) ∧ ∃ v', RdB w' g s n k t a D L d v' h ∧ OwV w' (g + 1) v' l ∧ Below g w w' := by
  obtain ⟨q, cap, rfl, hcap⟩ := HO.full
  have hx := HO.last
  have HF := Lib.hid HO.front
  have c8 : w.cell? ⟨g, 8, none⟩ = some (.slice (some ⟨q, 0, none⟩) (l.length + 1) cap) := H.cell 8
  have f8 := H.frozen 8
  have HH := Lib.hid H
  obtain ⟨m, hm⟩ : ∃ m, l.length = m := ⟨_, rfl⟩
  rw [hm] at hl hx c8 HF hcap
  have HM := Lib.hid hm
  have hsl : ∀ W : World, (Instr.slice 67 (.slice (some ⟨q, 0, none⟩) (m + 1) cap) none (some (.int .i64 (m : Int))) none).run Tryz.prog W = .ok (.slice (some ⟨q, 0, none⟩) m cap) W := fun W => by
    have h1 : Tryz.prog.underlying 67 = some (.slice (Tryz.prog.elem 67)) := by kernel_rfl
    have h2 : (sizeOf (Tryz.prog.elem 67)).run Tryz.prog W = .ok 1 W := by kernel_rfl
    rw [run_slice_h W _ _ _ _ h1 .i64 (m : Int) (by omega) (by omega), h2]
    simp [Result.andThen, sliced, Addr.add]
  have kw : IntKind.i64.wrap (((m + 1 : Nat) : Int) - 1) = (m : Int) := by rw [IntKind.wrap_i64]; omega
  obtain ⟨n1, hn1⟩ : ∃ n1, m + 1 = n1 := ⟨_, rfl⟩
  rw [hn1] at hsl kw c8
  have g1 : (0 : Int) ≤ (m : Int) := by omega
  have g2 : (m : Int) < (n1 : Int) := by omega
  have g3 : m < n1 := by omega
  clear H HO hm hl hn1 hcap
  go_enter Tryz.func105, Tryz.ntmps105
  go_wp2_with fail
  go_region_with (fail)
  all_goals
    go_wp2_with fail
    go_region_with (fail)
    all_goals
      go_wp2_with fail
      refine bodyPost_ret (v := .int .u64 (x : Int)) (by simp [results, Tryz.results105, go_sem]) rfl ⟨rfl, _, RdB.dn (RdB.setVals HH.out _) 2, HF.out.far (p := ⟨g, 8, none⟩) (Nat.lt_succ_self g) _, below_dn ((Below.refl g w).setCell (Nat.le_refl _) _) 2⟩
end Go.Proofs.YtibjogbalmbeeaaGreatDoor

namespace Go.Proofs.YtibjogbalmbeeaaGreatDoor
open Go.RowKit

set_option maxRecDepth 100000 in
set_option maxHeartbeats 2000000 in
theorem literal_dec {w : World} {g : Nat} {s n k t a D L d v h} {l : List Nat} (H : RdB w g s n k t a D L d v h) (HO : OwV w (g + 1) v l) (hn : n ≤ s.size) (hs : s.size ≤ 100000) (hl : l.length < 100000)
    (hx : Lib.hasPrefix t.data.toList [48, 120] = false) (V : Nat)
    (hP : ∀ W, Below w.heap.size w W → Calls Tryz.prog 201 #[.int .i64 64, .string t] W fun e w' => e = .returned (.tuple #[.int .u64 (V : Int), .int .i64 0]) ∧ Below W.heap.size W w') :
    Calls Tryz.prog 182 #[.pointer (some ⟨g, 0, none⟩)] w fun e w' => e = .returned (.tuple #[]) ∧ (∃ v', RdB w' g s (cutK s (ovr pBln s n)).2 (cutK s (ovr pBln s n)).1 (cutT s (ovr pBln s n)) (ovr pBln s n) D L d v' h ∧ OwV w' (g + 1) v' (l ++ [V])) ∧ Below g w w' := by
  have c3 : w.cell? ⟨g, 3, none⟩ = some (.string t) := H.cell 3
  have hlt := H.lt
  have HPf := Lib.hid (fun W => Tryz.strings_HasPrefix t ⟨#[48, 120]⟩ W)
  have HP := Lib.hid hP
  have HU := Lib.hid (fun (W : World) (hb : Below w.heap.size w W) => push_walk (w := W) (H.below hb) (HO.below hb) V hl)
  have HS := Lib.hid (fun (W : World) (v' : Value) (hb : RdB W g s n k t a D L d v' h) => step_walk hb hn hs)
  have HLt := Lib.hid hlt
  rw [show Lib.hasPrefix t.data.toList (⟨#[48, 120]⟩ : ByteArray).data.toList = false from hx] at HPf
  clear H HO hn hs hl hx hP hlt
  generalize (cutK s (ovr pBln s n)).2 = n' at *
  generalize (cutK s (ovr pBln s n)).1 = k' at *
  generalize cutT s (ovr pBln s n) = t' at *
  generalize ovr pBln s n = b at *
  go_enter Tryz.func182, Tryz.ntmps182
  go_wp2_with fail
  refine (HPf.out _).mono ?_
  rintro e w1 ⟨rfl, hw⟩
  (have h0 := hw.symm); subst h0
  clear hw
  go_wp2_with fail
  refine (HP.out _ (Below.refl _ _)).mono ?_
  rintro e w1 ⟨rfl, hb⟩
  have HB := Lib.hid hb
  have HU1 := Lib.hid (HU.out w1 hb)
  clear hb
  go_wp2_with fail
  refine HU1.out.mono ?_
  rintro e w2 ⟨rfl, v', hr, ho, hb2⟩
  have HS2 := Lib.hid (HS.out w2 v' hr)
  have HO := Lib.hid ho
  have HL2 := Lib.hid hr.lt
  have HB2 := Lib.hid hb2
  clear hr ho hb2
  go_wp2_with fail
  refine HS2.out.mono ?_
  rintro e w3 ⟨rfl, hr, hb3⟩
  have HR := Lib.hid hr
  have HO3 := Lib.hid hb3
  clear hr hb3
  go_wp2_with fail
  exact bodyPost_end (results_none (by rfl) _ _ _) (by rfl) ⟨rfl, ⟨v', HR.out, HO.out.grb HO3.out⟩, (HB.out.mono (Nat.le_of_lt HLt.out)).trans (HB2.out.trans (grb_below HO3.out (Nat.le_of_lt HL2.out)))⟩

set_option maxRecDepth 100000 in
set_option maxHeartbeats 2000000 in
theorem literal_hex {w : World} {g : Nat} {s n k t a D L d v h} {l : List Nat} (H : RdB w g s n k t a D L d v h) (HO : OwV w (g + 1) v l) (hn : n ≤ s.size) (hs : s.size ≤ 100000) (hl : l.length < 100000)
    (hx : Lib.hasPrefix t.data.toList [48, 120] = true) (V : Nat)
    (hP : ∀ W, Below w.heap.size w W → Calls Tryz.prog 202 #[.int .i64 64, .string t] W fun e w' => e = .returned (.tuple #[.int .u64 (V : Int), .int .i64 0]) ∧ Below W.heap.size W w') :
    Calls Tryz.prog 182 #[.pointer (some ⟨g, 0, none⟩)] w fun e w' => e = .returned (.tuple #[]) ∧ (∃ v', RdB w' g s (cutK s (ovr pBln s n)).2 (cutK s (ovr pBln s n)).1 (cutT s (ovr pBln s n)) (ovr pBln s n) D L d v' h ∧ OwV w' (g + 1) v' (l ++ [V])) ∧ Below g w w' := by
  have c3 : w.cell? ⟨g, 3, none⟩ = some (.string t) := H.cell 3
  have hlt := H.lt
  have HPf := Lib.hid (fun W => Tryz.strings_HasPrefix t ⟨#[48, 120]⟩ W)
  have HP := Lib.hid hP
  have HU := Lib.hid (fun (W : World) (hb : Below w.heap.size w W) => push_walk (w := W) (H.below hb) (HO.below hb) V hl)
  have HS := Lib.hid (fun (W : World) (v' : Value) (hb : RdB W g s n k t a D L d v' h) => step_walk hb hn hs)
  have HLt := Lib.hid hlt
  rw [show Lib.hasPrefix t.data.toList (⟨#[48, 120]⟩ : ByteArray).data.toList = true from hx] at HPf
  clear H HO hn hs hl hx hP hlt
  generalize (cutK s (ovr pBln s n)).2 = n' at *
  generalize (cutK s (ovr pBln s n)).1 = k' at *
  generalize cutT s (ovr pBln s n) = t' at *
  generalize ovr pBln s n = b at *
  go_enter Tryz.func182, Tryz.ntmps182
  go_wp2_with fail
  refine (HPf.out _).mono ?_
  rintro e w1 ⟨rfl, hw⟩
  (have h0 := hw.symm); subst h0
  clear hw
  go_wp2_with fail
  refine (HP.out _ (Below.refl _ _)).mono ?_
  rintro e w1 ⟨rfl, hb⟩
  have HB := Lib.hid hb
  have HU1 := Lib.hid (HU.out w1 hb)
  clear hb
  go_wp2_with fail
  refine HU1.out.mono ?_
  rintro e w2 ⟨rfl, v', hr, ho, hb2⟩
  have HS2 := Lib.hid (HS.out w2 v' hr)
  have HO := Lib.hid ho
  have HL2 := Lib.hid hr.lt
  have HB2 := Lib.hid hb2
  clear hr ho hb2
  go_wp2_with fail
  refine HS2.out.mono ?_
  rintro e w3 ⟨rfl, hr, hb3⟩
  have HR := Lib.hid hr
  have HO3 := Lib.hid hb3
  clear hr hb3
  go_wp2_with fail
  exact bodyPost_end (results_none (by rfl) _ _ _) (by rfl) ⟨rfl, ⟨v', HR.out, HO.out.grb HO3.out⟩, (HB.out.mono (Nat.le_of_lt HLt.out)).trans (HB2.out.trans (grb_below HO3.out (Nat.le_of_lt HL2.out)))⟩
end Go.Proofs.YtibjogbalmbeeaaGreatDoor

namespace Go.Proofs.YtibjogbalmbeeaaGreatDoor
open Go.RowKit

set_option maxRecDepth 100000 in
theorem deeper_no {w : World} {g : Nat} {s n k t a D L d v h} (H : RdB w g s n k t a D L d v h) (hd : d = 50) :
    Calls Tryz.prog 179 #[.pointer (some ⟨g, 0, none⟩)] w fun e w' => e = .panicked [cfault (a : Int) 11] ∧ w' = w := by
  subst hd
  have c7 : w.cell? ⟨g, 7, none⟩ = some (.int .i64 50) := H.cell 7
  have HF := Lib.hid (cfail_walk H 11)
  clear H
  go_enter Tryz.func179, Tryz.ntmps179
  go_wp2_with fail
  refine HF.out.mono ?_
  rintro e w2 ⟨rfl, hw⟩
  (have h0 := hw.symm); subst h0
  go_wp2_with fail
  exact ⟨rfl, rfl, rfl⟩

end Go.Proofs.YtibjogbalmbeeaaGreatDoor
