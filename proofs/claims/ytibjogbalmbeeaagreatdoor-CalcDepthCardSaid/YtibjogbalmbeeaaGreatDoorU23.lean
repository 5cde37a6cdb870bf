/- The walks of decimal.Parse and of the closure that it defers. · The walk of decimal.Parse. · Walks of calc: a constant. -/
import Derived.Test.YtibjogbalmbeeaaGreatDoorU22
import Derived.Defers
import Derived.Recover
import Derived.Test.YtibjogbalmbeeaaGreatDoorU09

namespace Go.Proofs.YtibjogbalmbeeaaGreatDoor
open Go.RowKit

set_option maxRecDepth 100000 in
theorem dcatch_idle (p q : Addr) (w : World) :
    CallsD Tryz.prog 217 #[.pointer (some p), .pointer (some q)] .returning w fun e u' w' => e = .returned (.tuple #[]) ∧ u' = .returning ∧ w' = w := by
  refine callsD_of_wpS Tryz.func217 rfl fun c₀ cs hu => ?_
  apply wpS_seq
  apply wpS_region
  simp [wpOpsS, go_sem, recoverD, hu, Tryz.ntmps217, Exit.thenS]
  refine wpS_of_wp ?_
  have hfr : (#[Value.pointer (some p), Value.pointer (some q)] ++ ((Array.replicate 15 undef).setIfInBounds 3 Value.nilIface).setIfInBounds 0 Value.nilIface : Array Value) = #[.pointer (some p), .pointer (some q), .nilIface, undef, undef, .nilIface, undef, undef, undef, undef, undef, undef, undef, undef, undef, undef, undef] := rfl
  rw [hfr]
  clear hfr
  go_wp2
  cases c₀
  simp_all [bodyPostS, results, Tryz.results217]

set_option maxRecDepth 100000 in
theorem dcatch_fault (p q : Addr) (j : Int) (older : List PanicEntry) (w : World) (x y : Value) (hp : w.cell? p = some x) (hq : w.cell? q = some y) (fp : w.frozen? p = false) (fq : w.frozen? q = false) (hpl : p.block < w.heap.size) (hql : q.block < w.heap.size) (hpq : p ≠ q) :
    CallsD Tryz.prog 217 #[.pointer (some p), .pointer (some q)] (.panicking (dfault j :: older)) w fun e u' w' =>
      e = .returned (.tuple #[]) ∧ u' = .panicking ({ dfault j with recovered := true } :: older) ∧ w' = (((w.alloc (.cells #[.int .i64 8, .int .i64 j] 271)).setCell p (.int .u64 0)).setCell q (.int .i64 8)).drew := by
  refine callsD_of_wpS Tryz.func217 rfl fun c₀ cs hu => ?_
  apply wpS_seq
  apply wpS_region
  unfold dfault at hu
  simp [wpOpsS, go_sem, recoverD, hu, Tryz.ntmps217, Exit.thenS]
  refine wpS_of_wp ?_
  have hfr : (#[Value.pointer (some p), Value.pointer (some q)] ++ ((Array.replicate 15 undef).setIfInBounds 3 (Value.iface 271 (.agg #[.int .i64 8, .int .i64 j]))).setIfInBounds 0 (Value.iface 271 (.agg #[.int .i64 8, .int .i64 j])) : Array Value) = #[.pointer (some p), .pointer (some q), .iface 271 (.agg #[.int .i64 8, .int .i64 j]), undef, undef, .iface 271 (.agg #[.int .i64 8, .int .i64 j]), undef, undef, undef, undef, undef, undef, undef, undef, undef, undef, undef] := rfl
  rw [hfr]
  clear hfr
  have hta : ∀ w1 : World, (Instr.typeAssert (.iface 271 (.agg #[.int .i64 8, .int .i64 j])) 20 271 true).run Tryz.prog w1 = .ok (.tuple #[.agg #[.int .i64 8, .int .i64 j], .bool true]) w1 := fun _ => by kernel_rfl
  have h1 : (w.alloc (.cells #[.int .i64 8, .int .i64 j] 271)).cell? p = some x := cell_kept (below_alloc' w _) hp
  have h2 : (w.alloc (.cells #[.int .i64 8, .int .i64 j] 271)).cell? q = some y := cell_kept (below_alloc' w _) hq
  have h3 : (w.alloc (.cells #[.int .i64 8, .int .i64 j] 271)).frozen? p = false := ((below_alloc' w _).frozen hpl).trans fp
  have h4 : (w.alloc (.cells #[.int .i64 8, .int .i64 j] 271)).frozen? q = false := ((below_alloc' w _).frozen hql).trans fq
  have h5 : ∀ v, ((w.alloc (.cells #[.int .i64 8, .int .i64 j] 271)).setCell p v).cell? q = some y := fun v => by rw [cell_other hpq]; exact h2
  have h0 : (w.alloc (.cells #[.int .i64 8, .int .i64 j] 271)).cell? ⟨w.heap.size, 0, none⟩ = some (.int .i64 8) := by simp
  have h6 : ∀ v, ((w.alloc (.cells #[.int .i64 8, .int .i64 j] 271)).setCell p v).cell? ⟨w.heap.size, 0, none⟩ = some (.int .i64 8) := fun v => by rw [cell_other (fun e => by rw [e] at hpl; exact absurd hpl (Nat.lt_irrefl _))]; exact h0
  go_wp2_with fail
  obtain ⟨w1, hw1⟩ : ∃ w1, w.alloc (.cells #[.int .i64 8, .int .i64 j] 271) = w1 := ⟨_, rfl⟩
  rw [hw1] at h0 h1 h2 h3 h4 h5 h6 ⊢
  go_region_with (fail)
  all_goals
    go_wp2
    cases c₀
    simp_all [bodyPostS, results, Tryz.results217, dfault]
end Go.Proofs.YtibjogbalmbeeaaGreatDoor

namespace Go.Proofs.YtibjogbalmbeeaaGreatDoor
open Go.RowKit

def nanS : ByteArray := ⟨#[110, 97, 110]⟩
def infS : ByteArray := ⟨#[105, 110, 102]⟩
theorem str_eq (s t : ByteArray) : (s.toList == t.data.toList) = decide (s = t) := by
  rw [Lib.toList_data]
  by_cases h : s = t
  · subst h; simp
  · rw [decide_eq_false h, beq_eq_false_iff_ne]
    intro e
    apply h
    cases s with | mk a => cases t with | mk b =>
      have : a = b := Array.toList_inj.1 e
      rw [this]
/-- What a text says: 0 a NaN; 1 an infinity; 2 digits and an exponent of ten. -/
def tokOf (s : ByteArray) : Option (Nat × Bool × Nat × Int) :=
  if s = nanS then some (0, false, 0, 0) else
  if s.extract (sgI s 0) s.size = infS then some (1, sgB s 0, 0, 0) else
  (decAt s (sgI s 0)).map fun d => (2, sgB s 0, dcV d.1, d.2)
/-- The pattern of what a text says. -/
def TokP (f : Fm) (k : Nat) (neg : Bool) (m : Nat) (x : Int) (v : Nat) : Prop :=
  if k = 0 then v = f.quiet else if k = 1 then v = sgn f neg f.inf else ∃ p, IsPat f (tn m x) (td x) p ∧ p ≤ f.inf ∧ v = sgn f neg p
/-- What Parse answers. -/
def ParOk (f : Fm) (s : ByteArray) (v : Nat) (e : Int) : Prop :=
  if 4000 < s.size then v = 0 ∧ e = 7 else
  match tokOf s with
  | none => v = 0 ∧ e = 8
  | some (k, neg, m, x) => TokP f k neg m x v ∧ e = 0
theorem quiet_any (f : Fm) (hf : f.ok) (w : World) : Calls Tryz.prog 190 #[.int .i64 (fmt f)] w fun e w' => e = .returned (.tuple #[.int .u64 ((f.quiet : Nat) : Int), .int .i64 0]) ∧ Below w.heap.size w w' := by
  rcases hf with h | h <;> subst h
  · exact quiet_S w
  · exact quiet_D w
theorem isDec_dgQ (c : UInt8) : isDec c = true → dgQ c = true := fun h => by
  obtain ⟨h1, h2⟩ := isDec_range c h
  unfold dgQ; simp [h1, h2]
theorem ext_all (s : ByteArray) (i j : Nat) (hj : j ≤ s.size) (h : ∀ k, i ≤ k → k < j → isDec (by8 s k) = true) : (s.extract i j).data.toList.all dgQ = true := by
  rw [List.all_eq_true]
  intro x hx
  obtain ⟨k, hk, rfl⟩ := List.getElem_of_mem hx
  have hl : (s.extract i j).data.toList.length = j - i := by
    rw [Array.length_toList]; exact size_ext s i j hj
  rw [hl] at hk
  have e := by8_extract s i j k hj hk
  have e2 : by8 (s.extract i j) k = (s.extract i j).data.toList[k] := by
    unfold by8
    rw [List.getD_eq_getElem?_getD, List.getElem?_eq_getElem (by rw [hl]; exact hk)]; rfl
  rw [← e2, e]
  exact isDec_dgQ _ (h (i + k) (by omega) (by omega))
theorem dW_all (s : ByteArray) (i : Nat) (hi : i ≤ s.size) : (dW s i).data.toList.all dgQ = true :=
  ext_all s i _ (runTo_le _ _ _ _ hi) fun k h1 h2 => runTo_all isDec s s.size i k h1 h2
theorem dP_all (s : ByteArray) (i : Nat) : (dP s i).data.toList.all dgQ = true := by
  unfold dP
  by_cases h : ptQ s i = true
  · rw [if_pos h]
    exact ext_all s _ _ (runTo_le _ _ _ _ ((ptQ_iff s i).1 h).1) fun k h1 h2 => runTo_all isDec s s.size _ k h1 h2
  · rw [if_neg h]; rfl
theorem dWP_le (s : ByteArray) (i : Nat) (hi : i ≤ s.size) : (dW s i).size + (dP s i).size ≤ s.size := by
  have h1 : dcE s i ≤ s.size := runTo_le _ _ _ _ hi
  have h0 : i ≤ dcE s i := runTo_ge _ _ _ _
  have h2 : (dW s i).size = dcE s i - i := size_ext _ _ _ h1
  unfold dP
  by_cases h : ptQ s i = true
  · rw [if_pos h]
    have h3 : dcE s (dcE s i + 1) ≤ s.size := runTo_le _ _ _ _ ((ptQ_iff s i).1 h).1
    rw [size_ext _ _ _ h3]
    omega
  · rw [if_neg h]
    have h4 : (⟨#[]⟩ : ByteArray).size = 0 := rfl
    rw [h4]
    omega
theorem decAt_dgs {s : ByteArray} {i : Nat} (hi : i ≤ s.size) (hs : s.size ≤ 4000) {D : List UInt8} {x : Int} (h : decAt s i = some (D, x)) : Dgs D ∧ D.length ≤ 4000 ∧ -1010000 ≤ x ∧ x ≤ 1010000 := by
  unfold decAt at h
  split at h
  · exact absurd h (by simp)
  · split at h
    · exact absurd h (by simp)
    · rename_i x0 k hx
      split at h
      · exact absurd h (by simp)
      · simp only [Option.some.injEq, Prod.mk.injEq] at h
        obtain ⟨rfl, rfl⟩ := h
        have hb := expAt_bound hx
        obtain ⟨_, _, l3, l4⟩ := dP_le s i hi
        refine ⟨⟨strip0_all ?_, strip0_head _⟩, ?_, by omega, by omega⟩
        · rw [List.all_append, dW_all s i hi, dP_all s i]; rfl
        · refine Nat.le_trans (strip0_len _) ?_
          rw [List.length_append, Array.length_toList, Array.length_toList]
          change (dW s i).size + (dP s i).size ≤ 4000
          have := dWP_le s i hi
          omega

/-- The two results' cells. -/
structure PC (w W : World) (a e : Value) : Prop where
  ca : W.cell? ⟨w.heap.size, 0, none⟩ = some a
  ce : W.cell? ⟨w.heap.size + 1, 0, none⟩ = some e
  fa : W.frozen? ⟨w.heap.size, 0, none⟩ = false
  fe : W.frozen? ⟨w.heap.size + 1, 0, none⟩ = false
  bl : Below w.heap.size w W
  sz : w.heap.size + 2 ≤ W.heap.size
theorem PC.below {w W W1 : World} {a e : Value} (h : PC w W a e) (hb : Below W.heap.size W W1) : PC w W1 a e := by
  have := h.sz
  exact ⟨cell_kept hb h.ca, cell_kept hb h.ce, (hb.frozen (p := ⟨w.heap.size, 0, none⟩) (show w.heap.size < W.heap.size by omega)).trans h.fa, (hb.frozen (p := ⟨w.heap.size + 1, 0, none⟩) (show w.heap.size + 1 < W.heap.size by omega)).trans h.fe, below_chain h.bl hb, Nat.le_trans h.sz hb.size⟩
theorem PC.kb {w W W1 : World} {a e : Value} {b : Nat} (h : PC w W a e) (hk : KB b W W1) (hb : w.heap.size + 2 ≤ b) : PC w W1 a e := by
  have hs := h.sz
  have e1 := hk.block w.heap.size (by omega) (by omega)
  have e2 := hk.block (w.heap.size + 1) (by omega) (by omega)
  exact ⟨hk.cell h.ca (by simp; omega), hk.cell h.ce (by simp; omega), (World.frozen?_of_block (a := ⟨w.heap.size, 0, none⟩) e1).trans h.fa, (World.frozen?_of_block (a := ⟨w.heap.size + 1, 0, none⟩) e2).trans h.fe, h.bl.trans (hk.below (by omega) (by omega)), Nat.le_trans h.sz hk.size⟩
theorem PC.setA {w W : World} {a e : Value} (h : PC w W a e) (u : Value) : PC w (W.setCell ⟨w.heap.size, 0, none⟩ u) u e :=
  ⟨World.cell?_setCell_same' _ _ _ (by rw [h.ca]; rfl), by rw [cell_other (by simp)]; exact h.ce, by simpa using h.fa, by simpa using h.fe, h.bl.setCell (p := ⟨w.heap.size, 0, none⟩) (Nat.le_refl _) _, by simpa using h.sz⟩
theorem PC.setE {w W : World} {a e : Value} (h : PC w W a e) (u : Value) : PC w (W.setCell ⟨w.heap.size + 1, 0, none⟩ u) a u :=
  ⟨by rw [cell_other (by simp)]; exact h.ca, World.cell?_setCell_same' _ _ _ (by rw [h.ce]; rfl), by simpa using h.fa, by simpa using h.fe, h.bl.setCell (p := ⟨w.heap.size + 1, 0, none⟩) (by simp) _, by simpa using h.sz⟩
theorem PC.dn {w W : World} {a e : Value} (h : PC w W a e) (n : Nat) : PC w (W.drewN n) a e := ⟨h.ca, h.ce, h.fa, h.fe, below_dn h.bl n, h.sz⟩
theorem PC.start (w : World) : PC w ((w.alloc (.cells #[.int .u64 0] 23)).alloc (.cells #[.int .i64 0] 24)) (.int .u64 0) (.int .i64 0) :=
  ⟨by simp, by simp, by simp, by simp, below_chain (below_alloc' w _) (below_alloc' _ _), by simp⟩

set_option maxRecDepth 100000 in
set_option maxHeartbeats 2000000 in
theorem dparse_walk (f : Fm) (hf : f.ok) (s : ByteArray) (w : World) (hs : s.size ≤ 9223372036854775807) (ht : Tab64 w) :
    Calls Tryz.prog 201 #[.int .i64 (fmt f), .string s] w fun e w' => ∃ (v : Nat) (k : Int), e = .returned (.tuple #[.int .u64 (v : Int), .int .i64 k]) ∧ ParOk f s v k ∧ Below w.heap.size w w' := by
  have HT := Lib.hid ht
  clear ht
  have hmf : ∀ (fn : Fn) (first cap : Array Value) (w : World), (Instr.makeFunc fn first cap).run Tryz.prog w = .ok (.func fn first cap) w := fun _ _ _ _ => rfl
  have HC0 := Lib.hid (PC.start w)
  have HQ := Lib.hid (fun W => quiet_any f hf W)
  have HF := Lib.hid hf
  obtain ⟨FF, hFF⟩ : ∃ FF, fmt f = FF := ⟨_, rfl⟩
  rw [hFF] at HQ ⊢
  have HFF := Lib.hid hFF
  clear hFF hf
  obtain ⟨qt, hqt⟩ : ∃ qt, f.quiet = qt := ⟨_, rfl⟩
  rw [hqt] at HQ
  have HQt := Lib.hid hqt
  clear hqt
  by_cases hlong : 4000 < s.size
  case pos =>
    have hl : (4000 : Int) < (s.size : Int) := by omega
    have HP := Lib.hid (show ParOk f s 0 7 by unfold ParOk; rw [if_pos hlong]; exact ⟨rfl, rfl⟩)
    clear hlong
    go_enter_defers Tryz.func201, Tryz.ntmps201
    go_wp2_with fail
    refine (HQ.out _).mono ?_
    rintro e w1 ⟨rfl, hb1⟩
    have HC1 := Lib.hid (HC0.out.below hb1)
    have HC2 := Lib.hid (HC1.out.setE (.int .i64 0))
    obtain ⟨k0, k1, k2, k3, _, _⟩ := HC1.out
    obtain ⟨m0, m1, m2, m3, _, _⟩ := HC2.out
    have HC3 := ((HC2.out.setA (.int .u64 0)).setE (.int .i64 7))
    clear hb1
    go_wp2
    exact ⟨.tuple #[.int .u64 0, .int .i64 7], by simp [results, Tryz.results201, go_sem, HC3.ca, HC3.ce], 0, 7, rfl, HP.out, HC3.bl⟩
  have hl : ¬ (4000 : Int) < (s.size : Int) := by omega
  have HL := Lib.hid hlong
  have hs2 : s.size ≤ 4000 := by omega
  clear hlong
  by_cases hn : s = nanS
  · have hnb : (s.toList == [110, 97, 110]) = true := (str_eq s nanS).trans (decide_eq_true hn)
    have HP := Lib.hid (show ParOk f s qt 0 by
      unfold ParOk
      rw [if_neg HL.out]
      have e : tokOf s = some (0, false, 0, 0) := by unfold tokOf; rw [if_pos hn]
      rw [e]
      refine ⟨?_, rfl⟩
      unfold TokP; rw [if_pos rfl]; exact HQt.out.symm)
    clear hn
    go_enter_defers Tryz.func201, Tryz.ntmps201
    go_wp2_with fail
    refine (HQ.out _).mono ?_
    rintro e w1 ⟨rfl, hb1⟩
    have HC1 := Lib.hid (HC0.out.below hb1)
    have HC2 := Lib.hid (HC1.out.setE (.int .i64 0))
    obtain ⟨k0, k1, k2, k3, _, _⟩ := HC1.out
    obtain ⟨m0, m1, m2, m3, _, _⟩ := HC2.out
    clear hb1
    go_wp2_with fail
    have HC3 := ((HC2.out.setA (.int .u64 (qt : Int))).setE (.int .i64 0))
    refine leaves_cons (f := 217) (args := #[.pointer (some ⟨w.heap.size, 0, none⟩), .pointer (some ⟨w.heap.size + 1, 0, none⟩)]) (by simp) (by simp [go_sem]) ?_
    refine (dcatch_idle _ _ _).mono ?_
    rintro e u' w'' ⟨rfl, rfl, rfl⟩
    exact ⟨.tuple #[.int .u64 (qt : Int), .int .i64 0], by simp [results, Tryz.results201, go_sem, HC3.ca, HC3.ce], qt, 0, rfl, HP.out, HC3.bl⟩
  have hnb : (s.toList == [110, 97, 110]) = false := (str_eq s nanS).trans (decide_eq_false hn)
  have hi0 : sgI s 0 ≤ s.size := sgI_le s 0 (Nat.zero_le _)
  obtain ⟨i, hi⟩ : ∃ i, sgI s 0 = i := ⟨_, rfl⟩
  obtain ⟨ng, hng⟩ : ∃ ng, sgB s 0 = ng := ⟨_, rfl⟩
  rw [hi] at hi0
  have HTok := Lib.hid (show tokOf s = if s.extract i s.size = infS then some (1, ng, 0, 0) else (decAt s i).map fun d => (2, ng, dcV d.1, d.2) by
    unfold tokOf; rw [if_neg hn, hi, hng])
  have HSg := Lib.hid (fun (b : Nat) (W : World) (h : Box2 W b (.string s) (.int .i64 ((0 : Nat) : Int))) => dsign_walk b s 0 W h (by omega))
  rw [hi, hng] at HSg
  clear hn hi hng
  go_enter_defers Tryz.func201, Tryz.ntmps201
  go_wp2_with fail
  refine (HQ.out _).mono ?_
  rintro e w1 ⟨rfl, hb1⟩
  have HC1 := Lib.hid (HC0.out.below hb1)
  have HC2 := Lib.hid (HC1.out.setE (.int .i64 0))
  obtain ⟨k0, k1, k2, k3, _, _⟩ := HC1.out
  obtain ⟨m0, m1, m2, m3, _, _⟩ := HC2.out
  clear hb1
  go_wp2_with fail
  have hb2 := below_alloc' (w1.setCell ⟨w.heap.size + 1, 0, none⟩ (.int .i64 0)) (.cells #[.string s, .int .i64 0] 275)
  have HC3 := Lib.hid (HC2.out.below hb2)
  have hB3 : Box2 ((w1.setCell ⟨w.heap.size + 1, 0, none⟩ (.int .i64 0)).alloc (.cells #[.string s, .int .i64 0] 275)) w1.heap.size (.string s) (.int .i64 ((0 : Nat) : Int)) := ⟨by simp [go_sem], by simp [go_sem], by simp [go_sem], by simp [go_sem], by simp [go_sem]⟩
  have HBsz := Lib.hid HC1.out.sz
  obtain ⟨w3, hw3⟩ : ∃ w3, (w1.setCell ⟨w.heap.size + 1, 0, none⟩ (.int .i64 0)).alloc (.cells #[.string s, .int .i64 0] 275) = w3 := ⟨_, rfl⟩
  obtain ⟨b, hb⟩ : ∃ b, w1.heap.size = b := ⟨_, rfl⟩
  rw [hw3] at HC3 hB3 ⊢
  rw [hb] at hB3 HBsz ⊢
  have HB3 := Lib.hid hB3
  clear hw3 hb hb2 hB3 k0 k1 k2 k3 m0 m1 m2 m3 HC1 HC2
  refine (HSg.out b w3 HB3.out).mono ?_
  rintro e w4 ⟨rfl, hB4, hk4⟩
  have HB4 := Lib.hid hB4
  have HC4 := Lib.hid (HC3.out.kb hk4 HBsz.out)
  obtain ⟨x0, x1, x2, x3, x4⟩ := HB4.out
  have hii : (i : Int) ≤ (s.size : Int) := by omega
  clear hB4 hk4 HB3 HC3 HSg
  by_cases hinf : s.extract i s.size = infS
  · have hib : ((s.extract i s.size).toList == [105, 110, 102]) = true := (str_eq _ infS).trans (decide_eq_true hinf)
    have HV := Lib.hid (show ParOk f s (sgn f ng f.inf) 0 by
      unfold ParOk; rw [if_neg HL.out, HTok.out, if_pos hinf]
      refine ⟨?_, rfl⟩
      unfold TokP; rw [if_neg (by omega), if_pos rfl])
    have HIn := Lib.hid (fun W => dinf_walk f HF.out W)
    have HSd := Lib.hid (fun W => dsigned_walk f HF.out ng f.inf (inf_lt f HF.out) W)
    rw [HFF.out] at HIn HSd
    obtain ⟨fi, hfi⟩ : ∃ fi, f.inf = fi := ⟨_, rfl⟩
    obtain ⟨sv, hsv⟩ : ∃ sv, sgn f ng f.inf = sv := ⟨_, rfl⟩
    rw [hsv] at HV HSd
    rw [hfi] at HIn HSd
    clear hinf hfi hsv HTok
    go_wp2_with fail
    refine (HIn.out _).mono ?_
    rintro e w5 ⟨rfl, hw5⟩
    have hw5' := hw5.symm
    subst hw5'
    clear hw5
    go_wp2_with fail
    refine (HSd.out _).mono ?_
    rintro e w5 ⟨rfl, hw5⟩
    have hw5' := hw5.symm
    subst hw5'
    clear hw5
    obtain ⟨k0, k1, k2, k3, _, _⟩ := HC4.out
    have HC5 := ((HC4.out.setA (.int .u64 (sv : Int))).setE (.int .i64 0))
    have k4 : ∀ v, (w4.setCell ⟨w.heap.size, 0, none⟩ v).cell? ⟨w.heap.size + 1, 0, none⟩ = some (.int .i64 0) := fun v => (HC4.out.setA v).ce
    go_wp2
    refine leaves_cons (f := 217) (args := #[.pointer (some ⟨w.heap.size, 0, none⟩), .pointer (some ⟨w.heap.size + 1, 0, none⟩)]) (by simp) (by simp [go_sem]) ?_
    refine (dcatch_idle _ _ _).mono ?_
    rintro e u' w'' ⟨rfl, rfl, rfl⟩
    exact ⟨.tuple #[.int .u64 (sv : Int), .int .i64 0], by simp [results, Tryz.results201, go_sem, HC5.ca, HC5.ce], sv, 0, rfl, HV.out, HC5.bl⟩
  · have hib : ((s.extract i s.size).toList == [105, 110, 102]) = false := (str_eq _ infS).trans (decide_eq_false hinf)
    have HTk := Lib.hid (show tokOf s = (decAt s i).map fun d => (2, ng, dcV d.1, d.2) by rw [HTok.out, if_neg hinf])
    clear hinf HTok
    go_wp2_with fail
    refine (dnumber_walk b s i ng w4 HB4.out hi0 (by omega)).mono ?_
    rintro e w5 hpost
    rcases hpost with ⟨D, x, hd, rfl, hk5⟩ | ⟨hd, ⟨j, rfl⟩, hk5⟩
    · have HC5 := Lib.hid (HC4.out.kb hk5 HBsz.out)
      obtain ⟨d1, d2, d3, d4⟩ := decAt_dgs hi0 hs2 hd
      have HNr := Lib.hid (dnearest_walk f HF.out ng D x w5 (HT.out.below HC5.out.bl) d1 (by omega) d3 d4)
      rw [HFF.out] at HNr
      have HTd := Lib.hid (show tokOf s = some (2, ng, dcV D, x) by rw [HTk.out, hd]; rfl)
      clear hd hk5 d1 d2 d3 d4 HC4 HTk
      go_wp2_with fail
      refine HNr.out.mono ?_
      rintro e w6 ⟨p, rfl, hp, hpl, hb6⟩
      have HC6 := Lib.hid (HC5.out.below hb6)
      have HV := Lib.hid (show ParOk f s (sgn f ng p) 0 by
        unfold ParOk; rw [if_neg HL.out, HTd.out]
        refine ⟨?_, rfl⟩
        unfold TokP; rw [if_neg (by omega), if_neg (by omega)]; exact ⟨p, hp, hpl, rfl⟩)
      obtain ⟨sv, hsv⟩ : ∃ sv, sgn f ng p = sv := ⟨_, rfl⟩
      rw [hsv] at HV ⊢
      obtain ⟨k0, k1, k2, k3, _, _⟩ := HC6.out
      have HC7 := ((HC6.out.setA (.int .u64 (sv : Int))).setE (.int .i64 0))
      have k4 : ∀ v, (w6.setCell ⟨w.heap.size, 0, none⟩ v).cell? ⟨w.heap.size + 1, 0, none⟩ = some (.int .i64 0) := fun v => (HC6.out.setA v).ce
      clear hp hpl hb6 hsv HC5 HNr HTd
      go_wp2
      refine leaves_cons (f := 217) (args := #[.pointer (some ⟨w.heap.size, 0, none⟩), .pointer (some ⟨w.heap.size + 1, 0, none⟩)]) (by simp) (by simp [go_sem]) ?_
      refine (dcatch_idle _ _ _).mono ?_
      rintro e u' w'' ⟨rfl, rfl, rfl⟩
      exact ⟨.tuple #[.int .u64 (sv : Int), .int .i64 0], by simp [results, Tryz.results201, go_sem, HC7.ca, HC7.ce], sv, 0, rfl, HV.out, HC7.bl⟩
    · have HC5 := Lib.hid (HC4.out.kb hk5 HBsz.out)
      have HV := Lib.hid (show ParOk f s 0 8 by
        unfold ParOk; rw [if_neg HL.out, HTk.out, hd]; exact ⟨rfl, rfl⟩)
      clear hd hk5 HC4 HTk
      go_wp2
      refine leaves_cons (f := 217) (args := #[.pointer (some ⟨w.heap.size, 0, none⟩), .pointer (some ⟨w.heap.size + 1, 0, none⟩)]) (by simp) (by simp [go_sem]) ?_
      have hsz := HC5.out.sz
      refine (dcatch_fault ⟨w.heap.size, 0, none⟩ ⟨w.heap.size + 1, 0, none⟩ j [] w5 _ _ HC5.out.ca HC5.out.ce HC5.out.fa HC5.out.fe (by simp; omega) (by simp; omega) (by simp)).mono ?_
      rintro e u' w'' ⟨rfl, rfl, rfl⟩
      have HC6 := (((HC5.out.below (below_alloc' w5 (.cells #[.int .i64 8, .int .i64 (j : Int)] 271))).setA (.int .u64 0)).setE (.int .i64 8)).dn 1
      have HC6' : PC w ((((w5.alloc (.cells #[.int .i64 8, .int .i64 (j : Int)] 271)).setCell ⟨w.heap.size, 0, none⟩ (.int .u64 0)).setCell ⟨w.heap.size + 1, 0, none⟩ (.int .i64 8)).drew) (.int .u64 0) (.int .i64 8) := HC6
      exact ⟨.tuple #[.int .u64 0, .int .i64 8], by simp [results, Tryz.results201, go_sem, HC6'.ca, HC6'.ce], 0, 8, rfl, HV.out, HC6'.bl⟩
end Go.Proofs.YtibjogbalmbeeaaGreatDoor

namespace Go.Proofs.YtibjogbalmbeeaaGreatDoor
open Go.RowKit

def infC : ByteArray := ⟨#[105, 110, 102]⟩
def nanC : ByteArray := ⟨#[110, 97, 110]⟩
theorem ne_str {s t : ByteArray} (h : s ≠ t) : (s.toList == t.data.toList) = false := (str_eq s t).trans (decide_eq_false h)
theorem eq_str (s : ByteArray) : (s.toList == s.data.toList) = true := (str_eq s s).trans (decide_eq_true rfl)
set_option maxRecDepth 100000 in
theorem constant_inf (W : World) : Calls Tryz.prog 102 #[.string infC] W fun e w' => e = .returned (.tuple #[.int .u64 9218868437227405312, .bool true]) ∧ w' = W := by
  have f1 : (infC.toList == [112, 105]) = false := ne_str (s := infC) (t := ⟨#[112, 105]⟩) (by decide)
  have f2 : (infC.toList == [105, 110, 102]) = true := eq_str infC
  generalize infC = t at *
  go_enter Tryz.func102, Tryz.ntmps102
  go_wp2_with fail
  exact bodyPost_ret (v := .tuple #[.int .u64 9218868437227405312, .bool true]) (by simp [results, Tryz.results102, go_sem]) rfl ⟨rfl, rfl⟩
set_option maxRecDepth 100000 in
theorem constant_nan (W : World) : Calls Tryz.prog 102 #[.string nanC] W fun e w' => e = .returned (.tuple #[.int .u64 9221120237041090561, .bool true]) ∧ w' = W := by
  have f1 : (nanC.toList == [112, 105]) = false := ne_str (s := nanC) (t := ⟨#[112, 105]⟩) (by decide)
  have f2 : (nanC.toList == [105, 110, 102]) = false := ne_str (s := nanC) (t := ⟨#[105, 110, 102]⟩) (by decide)
  have f3 : (nanC.toList == [110, 97, 110]) = true := eq_str nanC
  generalize nanC = t at *
  go_enter Tryz.func102, Tryz.ntmps102
  go_wp2_with fail
  exact bodyPost_ret (v := .tuple #[.int .u64 9221120237041090561, .bool true]) (by simp [results, Tryz.results102, go_sem]) rfl ⟨rfl, rfl⟩

theorem St.push {w W : World} {g s n D L d h l} (H : St w W g s n D L d h l) (x : Nat) (hl : l.length < 100000) :
    Calls Tryz.prog 167 #[.pointer (some ⟨g, 8, none⟩), .int .u64 (x : Int)] W fun e w' => e = .returned (.tuple #[]) ∧ St w w' g s n D L d h (l ++ [x]) := by
  obtain ⟨hb, v, hr, ho⟩ := H
  refine (push_walk hr ho x hl).mono ?_
  rintro e w' ⟨rfl, v', h1, h2, h3⟩
  exact ⟨rfl, hb.trans h3, v', h1, h2⟩
set_option maxRecDepth 100000 in
set_option maxHeartbeats 1000000 in
theorem St.word {w W : World} {g s n D L d h l} (H : St w W g s n D L d h l) (hn : n ≤ s.size) (hs : s.size ≤ 100000) (hl : l.length < 100000) (V : Nat)
    (hc : ∀ U, Calls Tryz.prog 102 #[.string (txt s n)] U fun e w' => e = .returned (.tuple #[.int .u64 (V : Int), .bool true]) ∧ w' = U) :
    Calls Tryz.prog 183 #[.pointer (some ⟨g, 0, none⟩)] W fun e w' => e = .returned (.tuple #[]) ∧ St w w' g s (nxt s n) D L d h (l ++ [V]) := by
  obtain ⟨c2, c3, c4⟩ := H.piece
  have HC := Lib.hid hc
  have HP := Lib.hid (H.push V hl)
  have HS := Lib.hid (fun U (hU : St w U g s n D L d h (l ++ [V])) => hU.step hn hs)
  generalize txt s n = t at *
  obtain ⟨y, hy⟩ : ∃ y : Int, (V : Int) = y := ⟨_, rfl⟩
  rw [hy] at HC HP
  clear H hn hs hl hc hy
  go_enter Tryz.func183, Tryz.ntmps183
  go_wp2_with fail
  refine (HC.out _).mono ?_
  rintro e w1 ⟨rfl, hw⟩
  (have h0 := hw.symm); subst h0
  clear hw
  go_wp2_with fail
  refine HP.out.mono ?_
  rintro e w2 ⟨rfl, h2⟩
  have HS2 := Lib.hid (HS.out w2 h2)
  clear h2
  go_wp2_with fail
  refine HS2.out.mono ?_
  rintro e w3 ⟨rfl, h3⟩
  have H3 := Lib.hid h3
  clear h3
  go_wp2_with fail
  exact bodyPost_ret (v := .tuple #[]) (results_none (by rfl) _ _ _) rfl ⟨rfl, H3.out⟩
theorem St.const {w W : World} {g s n D L d h l} (H : St w W g s n D L d h l) (hk : knd s n = 1) (hn : n ≤ s.size) (hs : s.size ≤ 100000) (hl : l.length < 100000) (V : Nat)
    (hc : ∀ U, Calls Tryz.prog 102 #[.string (txt s n)] U fun e w' => e = .returned (.tuple #[.int .u64 (V : Int), .bool true]) ∧ w' = U) :
    Calls Tryz.prog 164 #[.pointer (some ⟨g, 0, none⟩)] W fun e w' => e = .returned (.tuple #[]) ∧ St w w' g s (nxt s n) D L d h (l ++ [V]) := by
  obtain ⟨hb, v, hr, ho⟩ := id H
  exact factor_word hr hk (fun w' => St w w' g s (nxt s n) D L d h (l ++ [V])) fun U hU => (H.below hU).word hn hs hl V hc

end Go.Proofs.YtibjogbalmbeeaaGreatDoor
