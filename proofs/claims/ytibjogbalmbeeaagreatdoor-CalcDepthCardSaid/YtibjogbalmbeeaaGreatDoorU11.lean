/- Words on memory: all but one block is kept; a list that lies elsewhere. · Walks of natmul: trim, rows. · Walks of natmul: addAt, takeAway. · Walk of natmul: takeAway. · Walks of natmul: cut, sum. · Walks of natmul: product, thirds (given that shorter products are right). · Walk of natmul: thirds (three products of halves). · Walks of natmul: slabs, fill; every product is right. · Walks of natmul: Mul, told, next. · Walk of natmul: next. -/
import Derived.Test.YtibjogbalmbeeaaGreatDoorU02
import Derived.Test.YtibjogbalmbeeaaGreatDoorU10
import Derived.BigQuiet
import Derived.StillTailTactics
import Derived.Test.YtibjogbalmbeeaaGreatDoorU03
import Derived.Lib.SliceRun
import Derived.BigFrame

namespace Go.Proofs.YtibjogbalmbeeaaGreatDoor
open Go.RowKit

/-- All that was there is kept, but the block g. -/
structure KB (g : Nat) (w w' : World) : Prop where
  os : w'.os = w.os
  tape : w'.tape = w.tape
  output : w'.output = w.output
  size : w.heap.size ≤ w'.heap.size
  block : ∀ k, k < w.heap.size → k ≠ g → w'.heap[k]? = w.heap[k]?
theorem KB.refl (g : Nat) (w : World) : KB g w w := ⟨rfl, rfl, rfl, Nat.le_refl _, fun _ _ _ => rfl⟩
theorem KB.trans {g : Nat} {a b c : World} (h : KB g a b) (k : KB g b c) : KB g a c :=
  ⟨k.os.trans h.os, k.tape.trans h.tape, k.output.trans h.output, Nat.le_trans h.size k.size, fun i hi hg => (k.block i (Nat.lt_of_lt_of_le hi h.size) hg).trans (h.block i hi hg)⟩
theorem KB.of {g : Nat} {w w' : World} (h : Below w.heap.size w w') : KB g w w' := ⟨h.os, h.tape, h.output, h.size, fun k hk _ => h.block k hk⟩
theorem KB.next {g : Nat} {w w1 w2 : World} (h : KB g w w1) (k : Below w1.heap.size w1 w2) : KB g w w2 := h.trans (.of k)
theorem KB.below {g B : Nat} {w w' : World} (h : KB g w w') (hB : B ≤ g) (hB2 : B ≤ w.heap.size) : Below B w w' :=
  ⟨h.os, h.tape, h.output, h.size, fun k hk => h.block k (by omega) (by omega)⟩
theorem KB.set {g : Nat} {w w' : World} (h : KB g w w') (i : Nat) (v : Value) : KB g w (w'.setCell ⟨g, i, none⟩ v) :=
  h.trans ⟨rfl, rfl, rfl, by simp [World.setCell], fun k _ hk => Below.heap_setCell _ _ _ _ hk⟩
theorem KB.dn {g : Nat} {w w' : World} (h : KB g w w') (n : Nat) : KB g w (w'.drewN n) := ⟨h.os, h.tape, h.output, h.size, h.block⟩
theorem Blk.dn {w : World} {g : Nat} {l : List Nat} (h : Blk w g l) (n : Nat) : Blk (w.drewN n) g l := h
theorem KB.cell {g : Nat} {w w' : World} (h : KB g w w') {p : Addr} {v : Value} (hc : w.cell? p = some v) (hp : p.block ≠ g) : w'.cell? p = some v := by
  rw [World.cell?_of_block (w := w) (h.block p.block (World.block_lt_of_cell? w p hc) hp)]; exact hc
theorem Blk.kb {g g' : Nat} {w w' : World} {l : List Nat} (hB : Blk w g' l) (h : KB g w w') (hg : g' ≠ g) : Blk w' g' l := (h.block g' hB.lt hg).trans hB
/-- A list that is read, and lies in another block than g. -/
def Rd (g : Nat) (w : World) (A : Option Addr) (l : List Nat) : Prop :=
  0 < l.length → ∃ ad : Addr, A = some ad ∧ ad.block ≠ g ∧ ∀ j, j < l.length → w.cell? (ad.add j) = some (.int .u64 ((el l j : Nat) : Int))
theorem Rd.rdU {g : Nat} {w : World} {A : Option Addr} {l : List Nat} (h : Rd g w A l) : RdU w A l := fun hl => let ⟨ad, e, _, hc⟩ := h hl; ⟨ad, e, hc⟩
theorem Rd.kb {g : Nat} {w w' : World} {A : Option Addr} {l : List Nat} (h : Rd g w A l) (hk : KB g w w') : Rd g w' A l := fun hl =>
  let ⟨ad, e, hg, hc⟩ := h hl
  ⟨ad, e, hg, fun j hj => hk.cell (hc j hj) (by rw [add_block]; exact hg)⟩
theorem RdU.away {g : Nat} {w : World} {A : Option Addr} {l : List Nat} (h : RdU w A l) (hg : w.heap.size ≤ g) : Rd g w A l := fun hl =>
  let ⟨ad, e, hc⟩ := h hl
  ⟨ad, e, fun e2 => by
    have := World.block_lt_of_cell? w _ (hc 0 hl)
    rw [add_block] at this
    omega, hc⟩
theorem Rd.take {g : Nat} {w : World} {A : Option Addr} {l : List Nat} (h : Rd g w A l) (n : Nat) : Rd g w A (l.take n) := fun hl => by
  have hl2 : 0 < l.length := by rw [List.length_take] at hl; omega
  obtain ⟨ad, e, hg, hc⟩ := h hl2
  refine ⟨ad, e, hg, fun j hj => ?_⟩
  rw [List.length_take] at hj
  rw [el_take (by omega)]
  exact hc j (by omega)
theorem Blk.rd {g g' : Nat} {w : World} {l : List Nat} (h : Blk w g' l) (hg : g' ≠ g) : Rd g w (some ⟨g', 0, none⟩) l := fun _ =>
  ⟨_, rfl, hg, fun j hj => by rw [add_flat]; exact h.cell hj⟩
end Go.Proofs.YtibjogbalmbeeaaGreatDoor

namespace Go.Proofs.YtibjogbalmbeeaaGreatDoor
open Go.RowKit

set_option maxRecDepth 100000 in
theorem mtrim_walk (A : Option Addr) (n c : Nat) (l : List Nat) (w : World) (hn : l.length = n) (hr : RdU w A l) (hc : n ≤ c) (hs : n ≤ 100000) :
    Calls Tryz.prog 159 #[.slice A n c] w fun e w' => e = .returned (.slice A (trimTo l l.length).length (trimTo l l.length).length) ∧ w = w' := by
  subst hn
  have HR := Lib.hid hr
  clear hr
  go_enter Tryz.func159, Tryz.ntmps159
  go_wp2
  go_loop [3] (fun n => ∃ k : Nat, k ≤ l.length ∧ n = .int .i64 k ∧ trimTo l l.length = trimTo l k) (fun n => (intOf n).toNat)
  case atStart => exact ⟨l.length, Nat.le_refl _, rfl, rfl⟩
  case round =>
    obtain ⟨k, hk, rfl, hT⟩ := hrel
    have HT := Lib.hid hT
    clear hT
    cases k with
    | zero =>
      go_wp2
      go_ret
      exact ⟨by rw [HT.out]; rfl, rfl⟩
    | succ k =>
      obtain ⟨ad, rfl, hc0⟩ := HR.out (by omega)
      have hck := hc0 k (by omega)
      clear hc0
      go_wp2
      · have hz : ((el l k : Nat) : Int) = 0 := by simpa using ‹(((el l k : Nat) : Int) == 0) = true›
        go_round
        case rel => exact ⟨k, by omega, rfl, by rw [HT.out, trimTo, if_pos (by omega)]⟩
        case measure => simp [intOf]
      · have hz : ¬ ((el l k : Nat) : Int) = 0 := by simpa using ‹(((el l k : Nat) : Int) == 0) = false›
        have e : (trimTo l l.length).length = k + 1 := by
          rw [HT.out, trimTo, if_neg (by omega)]
          simp only [List.length_take]
          exact Nat.min_eq_left hk
        go_ret
        exact ⟨by rw [e]; rfl, rfl⟩

set_option maxRecDepth 100000 in
set_option maxHeartbeats 1000000 in
theorem rows_walk (g cz : Nat) (rest : List Nat) (A B : Option Addr) (la lb ca cb a b : Nat) (w : World) (hA : Rd g w A (toL a)) (hB : Rd g w B (toL b)) (hla : (toL a).length = la) (hlb : (toL b).length = lb) (hca : la ≤ ca) (hcb : lb ≤ cb)
    (hz : Blk w g (List.replicate (la + lb) 0 ++ rest)) (_hcz : la + lb ≤ cz) (hs : la ≤ 20000) (hs2 : lb ≤ 20000) :
    Calls Tryz.prog 175 #[.slice (some ⟨g, 0, none⟩) (la + lb) cz, .slice A la ca, .slice B lb cb] w fun e w' => e = .returned (.tuple #[]) ∧ Blk w' g (pad (la + lb) (a * b) ++ rest) ∧ KB g w w' := by
  have ha := (toL_length_le a la).1 (by omega)
  have hb := (toL_length_le b lb).1 (by omega)
  have hea := el_toL a
  have heb := el_toL b
  obtain ⟨m, hm⟩ : ∃ m, la + lb = m := ⟨_, rfl⟩
  rw [hm] at hz _hcz ⊢
  have hz0 : List.replicate m 0 = pad m (a * (b % W64 ^ 0)) := by rw [Nat.pow_zero, Nat.mod_one, Nat.mul_zero, pad_zero_rep]
  rw [hz0] at hz
  have HZ := Lib.hid hz
  have HA := Lib.hid hA
  have HB := Lib.hid hB
  have HLa := Lib.hid (show a < W64 ^ la ∧ (toL a).length = la ∧ ∀ j, el (toL a) j = a / W64 ^ j % W64 from ⟨ha, hla, hea⟩)
  have HLb := Lib.hid (show b < W64 ^ lb ∧ (toL b).length = lb ∧ ∀ j, el (toL b) j = b / W64 ^ j % W64 from ⟨hb, hlb, heb⟩)
  have HM := Lib.hid (show la + lb = m ∧ la ≤ 20000 ∧ lb ≤ 20000 from ⟨hm, hs, hs2⟩)
  clear hz0 hz hA hB ha hb hea heb hla hlb hm hs hs2
  go_enter Tryz.func175, Tryz.ntmps175
  go_wp2_with fail
  go_loopw [14] (fun j wr => ∃ k : Nat, k ≤ lb ∧ j = .int .i64 (k : Int) ∧ Hid (Blk wr g (pad m (a * (b % W64 ^ k)) ++ rest)) ∧ Hid (KB g w wr)) (fun j _ => lb - (intOf j).toNat)
  case atStart => exact ⟨0, by omega, rfl, HZ, Lib.hid (KB.refl g w)⟩
  case round =>
    obtain ⟨k, hk, rfl, HX, HK⟩ := hrel
    by_cases hkl : k < lb
    · have hkli : (k : Int) < (lb : Int) := by omega
      have hM := HM.out
      have hkw : IntKind.i64.wrap ((k : Int) + 1) = (k : Int) + 1 := by rw [IntKind.wrap_i64]; omega
      obtain ⟨adb, hBe, hgb, hcb0⟩ := HB.out (by have := HLb.out.2.1; omega)
      have hdb := hcb0 k (by have := HLb.out.2.1; omega)
      rw [HLb.out.2.2 k] at hdb
      have hdl : b / W64 ^ k % W64 < W64 := Nat.mod_lt _ W64_pos
      obtain ⟨d, hd⟩ : ∃ d, b / W64 ^ k % W64 = d := ⟨_, rfl⟩
      rw [hd] at hdb hdl
      obtain ⟨X, hX⟩ : ∃ X, a * (b % W64 ^ k) = X := ⟨_, rfl⟩
      obtain ⟨X', hX'⟩ : ∃ X', X + W64 ^ k * (a * d) = X' := ⟨_, rfl⟩
      have hXn : a * (b % W64 ^ (k + 1)) = X' := by
        rw [mod_pow_succ, hd, Nat.mul_add, hX, ← hX']
        have : a * (W64 ^ k * d) = W64 ^ k * (a * d) := by ac_rfl
        rw [this, Nat.add_comm]
      have hXl : X < W64 ^ (k + la) := by
        rw [← hX, Nat.pow_add, Nat.mul_comm]
        exact Nat.mul_lt_mul'' (Nat.mod_lt _ (Nat.pow_pos W64_pos)) HLa.out.1
      have HE := Lib.hid (show (mix m (k + la) X' X).set (k + la) (mc (X / W64 ^ k) a d la) = pad m X' from by
        rw [← hX']; exact (row_end (by omega) hXl HLa.out.1 hdl).1)
      have hS0 : mix m k X' X = pad m X := by rw [← hX']; exact mix_start (by omega)
      have HX1 := HX.out
      rw [hX, ← hS0] at HX1
      have HX2 := Lib.hid HX1
      have HXn := Lib.hid hXn
      have HXX := Lib.hid hX'
      have HD := Lib.hid (show d < W64 from hdl)
      clear HX1 hS0 hXn hX' hXl hX hd hdl hcb0 hM
      subst hBe
      go_wp2_with fail
      go_loopw [7, 19] (fun cy i wr2 => ∃ t : Nat, t ≤ la ∧ i = .int .i64 (t : Int) ∧ cy = .int .u64 ((mc (X / W64 ^ k) a d t : Nat) : Int) ∧ Hid (Blk wr2 g (mix m (k + t) X' X ++ rest)) ∧ Hid (KB g w wr2)) (fun _ i _ => la - (intOf i).toNat)
      case atStart => exact ⟨0, by omega, rfl, by rw [mc_zero]; rfl, HX2, HK⟩
      case round =>
        obtain ⟨t, ht, rfl, rfl, HT, HKt⟩ := hrel
        by_cases htl : t < la
        · have hM := HM.out
          have hti : (t : Int) < (la : Int) := by omega
          obtain ⟨n, hn⟩ : ∃ n, k + t = n := ⟨_, rfl⟩
          obtain ⟨ada, hAe, hga, hca0⟩ := HA.out (by have := HLa.out.2.1; omega)
          have c1 := HKt.out.cell (hca0 t (by have := HLa.out.2.1; omega)) (by rw [add_block]; exact hga)
          rw [HLa.out.2.2 t] at c1
          have c2 := HKt.out.cell hdb (by rw [add_block]; exact hgb)
          have hT1 := HT.out
          rw [hn] at hT1
          have hnm : n < m := by omega
          have c3 := hT1.cell (j := n) (by rw [List.length_append, mix_length (by omega)]; omega)
          rw [el_app_left (by rw [mix_length (by omega)]; exact hnm), el_mix hnm, if_neg (by omega)] at c3
          have f3 := hT1.frozen n
          obtain ⟨s1, s2⟩ := mc_step (X / W64 ^ k) a d t
          have hcl := mc_lt (X / W64 ^ k) a d t HD.out
          have hacc := acc_high X k (a * d) t
          rw [HXX.out, hn] at hacc
          rw [← hacc] at s1
          rw [Nat.div_div_eq_div_mul, ← Nat.pow_add, hn] at s1 s2
          have hal : a / W64 ^ t % W64 < W64 := Nat.mod_lt _ W64_pos
          have hzl : X / W64 ^ n % W64 < W64 := Nat.mod_lt _ W64_pos
          have hset := fun q => (hT1.dn q).set n (X' / W64 ^ n % W64)
          rw [List.set_append_left _ _ (by rw [mix_length (by omega)]; exact hnm), mix_set hnm] at hset
          have hKs := fun q => (HKt.out.dn q).set n (.int .u64 ((X' / W64 ^ n % W64 : Nat) : Int))
          obtain ⟨cn, hcn⟩ : ∃ cn, mc (X / W64 ^ k) a d (t + 1) = cn := ⟨_, rfl⟩
          rw [hcn] at s2
          generalize mc (X / W64 ^ k) a d t = cy at *
          generalize a / W64 ^ t % W64 = ai at *
          generalize X / W64 ^ n % W64 = zi at *
          generalize X' / W64 ^ n % W64 = zn at *
          have hw := mac_words zi ai d cy hzl hal HD.out hcl
          rw [← s1, ← s2] at hw
          rw [W64_num] at hw hal hcl
          have hMul := fun W1 => Tryz.bits_Mul64 ai d hal (by have := HD.out; rw [W64_num] at this; exact this) W1
          obtain ⟨hi, hhi⟩ : ∃ hi, ai * d / 18446744073709551616 = hi := ⟨_, rfl⟩
          obtain ⟨lo, hlo⟩ : ∃ lo, ai * d % 18446744073709551616 = lo := ⟨_, rfl⟩
          simp only [hhi, hlo] at hMul hw
          have ha1 := fun W1 => Any7.bits_Add64 Tryz.lays7_25 lo cy 0 (by omega) W1
          obtain ⟨l2, hl2⟩ : ∃ l2, (lo + cy) % 18446744073709551616 = l2 := ⟨_, rfl⟩
          obtain ⟨k1, hk1⟩ : ∃ k1, (lo + cy) / 18446744073709551616 = k1 := ⟨_, rfl⟩
          simp only [Nat.add_zero, hl2, hk1] at ha1 hw
          have ha2 := fun W1 => Any7.bits_Add64 Tryz.lays7_25 zi l2 0 (by omega) W1
          obtain ⟨k2, hk2⟩ : ∃ k2, (zi + l2) / 18446744073709551616 = k2 := ⟨_, rfl⟩
          simp only [Nat.add_zero, hk2] at ha2 hw
          rw [hw.2.2.1] at ha2
          have HMul := Lib.hid hMul
          have hadd1 : ∀ W1 : World, (callFunc 85 #[.int .u64 (lo : Int), .int .u64 (cy : Int), .int .u64 0]).run Tryz.prog W1 = .ok (.value (.tuple #[.int .u64 (l2 : Int), .int .u64 (k1 : Int)])) W1 := ha1
          have hadd2 : ∀ W1 : World, (callFunc 85 #[.int .u64 (zi : Int), .int .u64 (l2 : Int), .int .u64 0]).run Tryz.prog W1 = .ok (.value (.tuple #[.int .u64 (zn : Int), .int .u64 (k2 : Int)])) W1 := ha2
          have p1 : IntKind.u64.wrap ((hi : Int) + (k1 : Int)) = ((hi + k1 : Nat) : Int) := by rw [IntKind.wrap_u64]; omega
          have p2 : IntKind.u64.wrap (((hi + k1 : Nat) : Int) + (k2 : Int)) = (cn : Int) := by rw [IntKind.wrap_u64]; omega
          have p3 : IntKind.i64.wrap ((t : Int) + (k : Int)) = (n : Int) := by rw [IntKind.wrap_i64]; omega
          have p4 : IntKind.i64.wrap ((t : Int) + 1) = (t : Int) + 1 := by rw [IntKind.wrap_i64]; omega
          have hnmi : (n : Int) < (m : Int) := by omega
          obtain ⟨h2, hh2⟩ : ∃ h2, hi + k1 = h2 := ⟨_, rfl⟩
          rw [hh2] at p1 p2
          have HS := Lib.hid hset
          have HKs := Lib.hid hKs
          have HC := Lib.hid (show mc (X / W64 ^ k) a d (t + 1) = cn ∧ n + 1 = k + (t + 1) from ⟨hcn, by omega⟩)
          clear hset hKs hT1 s1 s2 hcl hacc hal hzl hMul ha1 ha2 hw hhi hlo hl2 hk1 hk2 hh2 hcn hca0 hM hn
          subst hAe
          go_wp2_with fail
          go_quiet ((go_at_call 121; exact Calls.quiet_of_same (HMul.out _)))
          go_wp2_with fail
          go_roundw
          case rel => exact ⟨t + 1, by omega, by go_num, by rw [HC.out.1], by rw [← HC.out.2]; exact Lib.hid (HS.out _), Lib.hid (HKs.out _)⟩
          case measure => simp [intOf]; omega
        · have htl2 : t = la := by omega
          subst htl2
          have hM := HM.out
          have hT1 := HT.out
          have hnm : k + t < m := by omega
          have f3 := hT1.frozen (k + t)
          have c3 := hT1.cell (j := k + t) (by rw [List.length_append, mix_length (by omega)]; omega)
          have hset := hT1.set (k + t) (mc (X / W64 ^ k) a d t)
          rw [List.set_append_left _ _ (by rw [mix_length (by omega)]; exact hnm), HE.out] at hset
          have hKs := HKt.out.set (k + t) (.int .u64 ((mc (X / W64 ^ k) a d t : Nat) : Int))
          obtain ⟨n, hn⟩ : ∃ n, k + t = n := ⟨_, rfl⟩
          rw [hn] at hset hKs f3 c3
          have p3 : IntKind.i64.wrap ((k : Int) + (t : Int)) = (n : Int) := by rw [IntKind.wrap_i64]; omega
          have hnmi : (n : Int) < (m : Int) := by omega
          rw [← HXn.out] at hset
          have HS := Lib.hid hset
          have HKs := Lib.hid hKs
          clear hset hKs hT1 hM hn hnm
          go_wp2_with fail
          go_roundw
          case rel => exact ⟨k + 1, by omega, by go_num, HS, HKs⟩
          case measure => simp [intOf]; omega
    · have hkl2 : k = lb := by omega
      subst hkl2
      have hX1 := HX.out
      rw [Nat.mod_eq_of_lt HLb.out.1] at hX1
      have HX2 := Lib.hid hX1
      clear hX1
      go_wp2
      go_end0
      exact ⟨rfl, HX2.out, HK.out⟩
end Go.Proofs.YtibjogbalmbeeaaGreatDoor

namespace Go.Proofs.YtibjogbalmbeeaaGreatDoor
open Go.RowKit

theorem at_step (X B p t : Nat) :
    (X + W64 ^ p * B) / W64 ^ (p + t) % W64 = (X / W64 ^ (p + t) % W64 + B / W64 ^ t % W64 + mc (X / W64 ^ p) B 1 t) % W64 ∧
    mc (X / W64 ^ p) B 1 (t + 1) = (X / W64 ^ (p + t) % W64 + B / W64 ^ t % W64 + mc (X / W64 ^ p) B 1 t) / W64 := by
  obtain ⟨s1, s2⟩ := mc_step (X / W64 ^ p) B 1 t
  rw [Nat.mul_one, Nat.mul_one, Nat.div_div_eq_div_mul, ← Nat.pow_add] at s1
  rw [Nat.mul_one, Nat.div_div_eq_div_mul, ← Nat.pow_add] at s2
  rw [acc_high]
  exact ⟨s1, s2⟩

set_option maxRecDepth 100000 in
set_option maxHeartbeats 1000000 in
theorem addAt_walk (g cz : Nat) (rest : List Nat) (A : Option Addr) (lb cb X B p m : Nat) (w : World) (hA : Rd g w A (toL B)) (hlb : (toL B).length = lb) (hcb : lb ≤ cb)
    (hz : Blk w g (pad m X ++ rest)) (hfit : X + W64 ^ p * B < W64 ^ m) (hp : p ≤ m) (_hcz : m ≤ cz) (hm : m ≤ 60000) :
    Calls Tryz.prog 197 #[.slice (some ⟨g, 0, none⟩) m cz, .slice A lb cb, .int .i64 (p : Int)] w fun e w' => e = .returned (.tuple #[]) ∧ Blk w' g (pad m (X + W64 ^ p * B) ++ rest) ∧ KB g w w' := by
  have hb := (toL_length_le B lb).1 (by omega)
  have hpl : p + lb ≤ m := by
    by_cases h0 : B = 0
    · rw [← hlb, (toL_length_zero B).2 h0]; omega
    · rw [← hlb]; exact fits_at hfit h0
  obtain ⟨X', hX'⟩ : ∃ X', X + W64 ^ p * B = X' := ⟨_, rfl⟩
  have hstep := at_step X B p
  have hend := fun i (hi : p + i ≤ m) (hB : B < W64 ^ i) hc => sum_end (X := X) hi hB hc
  have hmore := fun i (hi : p + i ≤ m) (hB : B < W64 ^ i) hc => sum_more (X := X) hB hfit hi hc
  have hstart : mix m p X' X = pad m X := by rw [← hX']; exact mix_start hp
  rw [← hstart] at hz
  rw [hX'] at hstep hend ⊢
  have HZ := Lib.hid hz
  have HA := Lib.hid hA
  have HStep := Lib.hid hstep
  have HEnd := Lib.hid hend
  have HMore := Lib.hid hmore
  have HLb := Lib.hid (show B < W64 ^ lb ∧ (toL B).length = lb ∧ ∀ j, el (toL B) j = B / W64 ^ j % W64 from ⟨hb, hlb, el_toL B⟩)
  have HM := Lib.hid (show p + lb ≤ m ∧ m ≤ 60000 from ⟨hpl, hm⟩)
  have HC1 := Lib.hid (fun t => mc_le_one (X / W64 ^ p) B t)
  have hmc0 := mc_zero (X / W64 ^ p) B 1
  obtain ⟨cr, hcr⟩ : ∃ cr : Nat → Nat, mc (X / W64 ^ p) B 1 = cr := ⟨_, rfl⟩
  rw [hcr] at HStep HEnd HMore HC1 hmc0
  have H0 := Lib.hid hmc0
  clear hz hA hstep hend hmore hb hlb hpl hm hstart hmc0 hcr hX' hfit hp
  go_enter Tryz.func197, Tryz.ntmps197
  go_wp2_with fail
  go_loopw [6, 11] (fun cy i wr => ∃ t : Nat, t ≤ lb ∧ i = .int .i64 (t : Int) ∧ cy = .int .u64 ((cr t : Nat) : Int) ∧ Hid (Blk wr g (mix m (p + t) X' X ++ rest)) ∧ Hid (KB g w wr)) (fun _ i _ => lb - (intOf i).toNat)
  case atStart => exact ⟨0, by omega, rfl, by rw [H0.out]; rfl, HZ, Lib.hid (KB.refl g w)⟩
  case round =>
    obtain ⟨t, ht, rfl, rfl, HT, HK⟩ := hrel
    by_cases htl : t < lb
    · have hM := HM.out
      have hti : (t : Int) < (lb : Int) := by omega
      obtain ⟨n, hn⟩ : ∃ n, p + t = n := ⟨_, rfl⟩
      obtain ⟨ada, rfl, hga, hca0⟩ := HA.out (by have := HLb.out.2.1; omega)
      have c1 := HK.out.cell (hca0 t (by have := HLb.out.2.1; omega)) (by rw [add_block]; exact hga)
      rw [HLb.out.2.2 t] at c1
      have hT1 := HT.out
      rw [hn] at hT1
      have hnm : n < m := by omega
      have c3 := hT1.cell (j := n) (by rw [List.length_append, mix_length (by omega)]; omega)
      rw [el_app_left (by rw [mix_length (by omega)]; exact hnm), el_mix hnm, if_neg (by omega)] at c3
      have f3 := hT1.frozen n
      obtain ⟨s1, s2⟩ := HStep.out t
      rw [hn] at s1 s2
      have hcl := HC1.out t
      have hset := fun q => (hT1.dn q).set n (X' / W64 ^ n % W64)
      rw [List.set_append_left _ _ (by rw [mix_length (by omega)]; exact hnm), mix_set hnm] at hset
      have hKs := fun q => (HK.out.dn q).set n (.int .u64 ((X' / W64 ^ n % W64 : Nat) : Int))
      obtain ⟨cn, hcn⟩ : ∃ cn, cr (t + 1) = cn := ⟨_, rfl⟩
      rw [hcn] at s2
      generalize cr t = cy at *
      generalize B / W64 ^ t % W64 = bi at *
      generalize X / W64 ^ n % W64 = zi at *
      generalize X' / W64 ^ n % W64 = zn at *
      rw [W64_num] at s1 s2
      have ha1 := fun W1 => Any7.bits_Add64 Tryz.lays7_25 zi bi cy (by omega) W1
      rw [← s1, ← s2] at ha1
      have hadd1 : ∀ W1 : World, (callFunc 85 #[.int .u64 (zi : Int), .int .u64 (bi : Int), .int .u64 (cy : Int)]).run Tryz.prog W1 = .ok (.value (.tuple #[.int .u64 (zn : Int), .int .u64 (cn : Int)])) W1 := ha1
      have p3 : IntKind.i64.wrap ((p : Int) + (t : Int)) = (n : Int) := by rw [IntKind.wrap_i64]; omega
      have p4 : IntKind.i64.wrap ((t : Int) + 1) = (t : Int) + 1 := by rw [IntKind.wrap_i64]; omega
      have hnmi : (n : Int) < (m : Int) := by omega
      have HS := Lib.hid hset
      have HKs := Lib.hid hKs
      have HC := Lib.hid (show cr (t + 1) = cn ∧ n + 1 = p + (t + 1) from ⟨hcn, by omega⟩)
      clear hset hKs hT1 s1 s2 hcl ha1 hcn hca0 hM hn
      go_wp2_with fail
      go_region_with (fail)
      all_goals
        go_wp2_with fail
        go_roundw
        case rel => exact ⟨t + 1, by omega, by go_num, by rw [HC.out.1], by rw [← HC.out.2]; exact Lib.hid (HS.out _), Lib.hid (HKs.out _)⟩
        case measure => simp [intOf]; omega
    · have htl2 : t = lb := by omega
      subst htl2
      have p5 : IntKind.i64.wrap ((p : Int) + (t : Int)) = ((p + t : Nat) : Int) := by have := HM.out; rw [IntKind.wrap_i64]; omega
      go_wp2_with fail
      go_loopw [6, 8] (fun cy i wr2 => ∃ r : Nat, t ≤ r ∧ p + r ≤ m ∧ i = .int .i64 ((p + r : Nat) : Int) ∧ cy = .int .u64 ((cr r : Nat) : Int) ∧ Hid (Blk wr2 g (mix m (p + r) X' X ++ rest)) ∧ Hid (KB g w wr2)) (fun _ i _ => m - (intOf i).toNat)
      case atStart => exact ⟨t, by omega, HM.out.1, rfl, rfl, HT, HK⟩
      case round =>
        clear HT HK
        obtain ⟨r, hr, hrm, rfl, rfl, HT, HK⟩ := hrel
        have hBr : B < W64 ^ r := Nat.lt_of_lt_of_le HLb.out.1 (Nat.pow_le_pow_right W64_pos hr)
        by_cases h0 : cr r = 0
        · have hT1 := HT.out
          rw [HEnd.out r hrm hBr h0] at hT1
          have HT2 := Lib.hid hT1
          rw [h0]
          clear hT1 hBr h0
          go_wp2
          go_end0
          exact ⟨rfl, HT2.out, HK.out⟩
        · have hM := HM.out
          have hnm := HMore.out r hrm hBr h0
          obtain ⟨n, hn⟩ : ∃ n, p + r = n := ⟨_, rfl⟩
          have hT1 := HT.out
          rw [hn] at hT1 hnm ⊢
          have c3 := hT1.cell (j := n) (by rw [List.length_append, mix_length (by omega)]; omega)
          rw [el_app_left (by rw [mix_length (by omega)]; exact hnm), el_mix hnm, if_neg (by omega)] at c3
          have f3 := hT1.frozen n
          obtain ⟨s1, s2⟩ := HStep.out r
          rw [hn] at s1 s2
          have hcl := HC1.out r
          have hset := hT1.set n (X' / W64 ^ n % W64)
          rw [List.set_append_left _ _ (by rw [mix_length (by omega)]; exact hnm), mix_set hnm] at hset
          have hKs := HK.out.set n (.int .u64 ((X' / W64 ^ n % W64 : Nat) : Int))
          obtain ⟨cn, hcn⟩ : ∃ cn, cr (r + 1) = cn := ⟨_, rfl⟩
          rw [hcn] at s2
          rw [Nat.div_eq_of_lt hBr, Nat.zero_mod, Nat.add_zero] at s1 s2
          have hc0 : (0 : Int) < ((cr r : Nat) : Int) := by omega
          generalize cr r = cy at *
          generalize X / W64 ^ n % W64 = zi at *
          generalize X' / W64 ^ n % W64 = zn at *
          rw [W64_num] at s1 s2
          have ha1 := fun W1 => Any7.bits_Add64 Tryz.lays7_25 zi 0 cy (by omega) W1
          rw [Nat.add_zero, ← s1, ← s2] at ha1
          have hadd1 : ∀ W1 : World, (callFunc 85 #[.int .u64 (zi : Int), .int .u64 0, .int .u64 (cy : Int)]).run Tryz.prog W1 = .ok (.value (.tuple #[.int .u64 (zn : Int), .int .u64 (cn : Int)])) W1 := ha1
          have p4 : IntKind.i64.wrap ((n : Int) + 1) = ((n + 1 : Nat) : Int) := by rw [IntKind.wrap_i64]; omega
          have hnmi : (n : Int) < (m : Int) := by omega
          have HS := Lib.hid hset
          have HKs := Lib.hid hKs
          have HC := Lib.hid (show cr (r + 1) = cn ∧ n + 1 = p + (r + 1) from ⟨hcn, by omega⟩)
          clear hset hKs hT1 s1 s2 hcl ha1 hcn hM hn hBr h0 hrm
          go_wp2_with fail
          go_roundw
          case rel => exact ⟨r + 1, by omega, by have := HC.out.2; omega, by rw [← HC.out.2]; go_num, by rw [HC.out.1], by rw [← HC.out.2]; exact HS, HKs⟩
          case measure => simp [intOf]; omega
end Go.Proofs.YtibjogbalmbeeaaGreatDoor

namespace Go.Proofs.YtibjogbalmbeeaaGreatDoor
open Go.RowKit

set_option maxRecDepth 100000 in
set_option maxHeartbeats 1000000 in
theorem takeAway_walk (g cz : Nat) (rest : List Nat) (A : Option Addr) (lb cb X B m : Nat) (w : World) (hA : Rd g w A (toL B)) (hlb : (toL B).length = lb) (hcb : lb ≤ cb)
    (hz : Blk w g (pad m X ++ rest)) (hXm : X < W64 ^ m) (hBX : B ≤ X) (_hcz : m ≤ cz) (hm : m ≤ 60000) :
    Calls Tryz.prog 200 #[.slice (some ⟨g, 0, none⟩) m cz, .slice A lb cb] w fun e w' => e = .returned (.tuple #[]) ∧ Blk w' g (pad m (X - B) ++ rest) ∧ KB g w w' := by
  have hb := (toL_length_le B lb).1 (by omega)
  have hpl : lb ≤ m := by rw [← hlb]; exact (toL_length_le B m).2 (by omega)
  obtain ⟨X', hX'⟩ : ∃ X', X - B = X' := ⟨_, rfl⟩
  have hX2 : X' + B = X := by omega
  have hstep := sub_step X' B
  have hend : ∀ i, i ≤ m → B < W64 ^ i → car X' B i = 0 → mix m i X' X = pad m X' := fun i hi hB hc => mix_eq hi (by rw [← hX2]; exact sub_end hB hc)
  have hmore : ∀ i, i ≤ m → B < W64 ^ i → car X' B i ≠ 0 → i < m := fun i hi hB hc => sub_more hB (by rw [hX2]; exact hXm) hi hc
  have hstart : mix m 0 X' X = pad m X := mix_zero m X' X
  rw [← hstart] at hz
  rw [hX2] at hstep
  rw [hX']
  have HZ := Lib.hid hz
  have HA := Lib.hid hA
  have HStep := Lib.hid hstep
  have HEnd := Lib.hid hend
  have HMore := Lib.hid hmore
  have HLb := Lib.hid (show B < W64 ^ lb ∧ (toL B).length = lb ∧ ∀ j, el (toL B) j = B / W64 ^ j % W64 from ⟨hb, hlb, el_toL B⟩)
  have HM := Lib.hid (show lb ≤ m ∧ m ≤ 60000 from ⟨hpl, hm⟩)
  have HC1 := Lib.hid (fun t => car_le X' B t)
  have hmc0 := car_zero X' B
  obtain ⟨cr, hcr⟩ : ∃ cr : Nat → Nat, car X' B = cr := ⟨_, rfl⟩
  rw [hcr] at HStep HEnd HMore HC1 hmc0
  have H0 := Lib.hid hmc0
  clear hz hA hstep hend hmore hb hlb hpl hm hstart hmc0 hcr hX' hXm hBX hX2
  go_enter Tryz.func200, Tryz.ntmps200
  go_wp2_with fail
  go_loopw [4, 9] (fun cy i wr => ∃ t : Nat, t ≤ lb ∧ i = .int .i64 (t : Int) ∧ cy = .int .u64 ((cr t : Nat) : Int) ∧ Hid (Blk wr g (mix m t X' X ++ rest)) ∧ Hid (KB g w wr)) (fun _ i _ => lb - (intOf i).toNat)
  case atStart => exact ⟨0, by omega, rfl, by rw [H0.out]; rfl, HZ, Lib.hid (KB.refl g w)⟩
  case round =>
    obtain ⟨t, ht, rfl, rfl, HT, HK⟩ := hrel
    by_cases htl : t < lb
    · have hM := HM.out
      have hti : (t : Int) < (lb : Int) := by omega
      obtain ⟨ada, rfl, hga, hca0⟩ := HA.out (by have := HLb.out.2.1; omega)
      have c1 := HK.out.cell (hca0 t (by have := HLb.out.2.1; omega)) (by rw [add_block]; exact hga)
      rw [HLb.out.2.2 t] at c1
      have hT1 := HT.out
      have hnm : t < m := by omega
      have c3 := hT1.cell (j := t) (by rw [List.length_append, mix_length (by omega)]; omega)
      rw [el_app_left (by rw [mix_length (by omega)]; exact hnm), el_mix hnm, if_neg (by omega)] at c3
      have f3 := hT1.frozen t
      obtain ⟨s1, s2⟩ := HStep.out t
      have hcl := HC1.out t
      have hset := fun q => (hT1.dn q).set t (X' / W64 ^ t % W64)
      rw [List.set_append_left _ _ (by rw [mix_length (by omega)]; exact hnm), mix_set hnm] at hset
      have hKs := fun q => (HK.out.dn q).set t (.int .u64 ((X' / W64 ^ t % W64 : Nat) : Int))
      obtain ⟨cn, hcn⟩ : ∃ cn, cr (t + 1) = cn := ⟨_, rfl⟩
      rw [hcn] at s2
      generalize cr t = cy at *
      generalize B / W64 ^ t % W64 = bi at *
      generalize X / W64 ^ t % W64 = zi at *
      generalize X' / W64 ^ t % W64 = zn at *
      rw [W64_num] at s1
      have ha1 := fun W1 => Any7.bits_Sub64 Tryz.lays7_26 zi bi cy (by omega) W1
      rw [s1, s2] at ha1
      have hsub1 : ∀ W1 : World, (callFunc 161 #[.int .u64 (zi : Int), .int .u64 (bi : Int), .int .u64 (cy : Int)]).run Tryz.prog W1 = .ok (.value (.tuple #[.int .u64 (zn : Int), .int .u64 (cn : Int)])) W1 := ha1
      have p4 : IntKind.i64.wrap ((t : Int) + 1) = (t : Int) + 1 := by rw [IntKind.wrap_i64]; omega
      have hnmi : (t : Int) < (m : Int) := by omega
      have HS := Lib.hid hset
      have HKs := Lib.hid hKs
      have HC := Lib.hid (show cr (t + 1) = cn from hcn)
      clear hset hKs hT1 s1 s2 hcl ha1 hcn hca0 hM
      go_wp2_with fail
      go_region_with (fail)
      all_goals
        go_wp2_with fail
        go_roundw
        case rel => exact ⟨t + 1, by omega, by go_num, by rw [HC.out], Lib.hid (HS.out _), Lib.hid (HKs.out _)⟩
        case measure => simp [intOf]; omega
    · have htl2 : t = lb := by omega
      subst htl2
      go_wp2_with fail
      go_loopw [4, 6] (fun cy i wr2 => ∃ r : Nat, t ≤ r ∧ r ≤ m ∧ i = .int .i64 (r : Int) ∧ cy = .int .u64 ((cr r : Nat) : Int) ∧ Hid (Blk wr2 g (mix m r X' X ++ rest)) ∧ Hid (KB g w wr2)) (fun _ i _ => m - (intOf i).toNat)
      case atStart => exact ⟨t, by omega, HM.out.1, rfl, rfl, HT, HK⟩
      case round =>
        clear HT HK
        obtain ⟨r, hr, hrm, rfl, rfl, HT, HK⟩ := hrel
        have hBr : B < W64 ^ r := Nat.lt_of_lt_of_le HLb.out.1 (Nat.pow_le_pow_right W64_pos hr)
        by_cases h0 : cr r = 0
        · have hT1 := HT.out
          rw [HEnd.out r hrm hBr h0] at hT1
          have HT2 := Lib.hid hT1
          rw [h0]
          clear hT1 hBr h0
          go_wp2
          go_end0
          exact ⟨rfl, HT2.out, HK.out⟩
        · have hM := HM.out
          have hnm := HMore.out r hrm hBr h0
          have hT1 := HT.out
          have c3 := hT1.cell (j := r) (by rw [List.length_append, mix_length (by omega)]; omega)
          rw [el_app_left (by rw [mix_length (by omega)]; exact hnm), el_mix hnm, if_neg (by omega)] at c3
          have f3 := hT1.frozen r
          obtain ⟨s1, s2⟩ := HStep.out r
          have hcl := HC1.out r
          have hset := hT1.set r (X' / W64 ^ r % W64)
          rw [List.set_append_left _ _ (by rw [mix_length (by omega)]; exact hnm), mix_set hnm] at hset
          have hKs := HK.out.set r (.int .u64 ((X' / W64 ^ r % W64 : Nat) : Int))
          obtain ⟨cn, hcn⟩ : ∃ cn, cr (r + 1) = cn := ⟨_, rfl⟩
          rw [hcn] at s2
          rw [Nat.div_eq_of_lt hBr, Nat.zero_mod] at s1 s2
          have hc0 : (0 : Int) < ((cr r : Nat) : Int) := by omega
          generalize cr r = cy at *
          generalize X / W64 ^ r % W64 = zi at *
          generalize X' / W64 ^ r % W64 = zn at *
          rw [W64_num] at s1
          have ha1 := fun W1 => Any7.bits_Sub64 Tryz.lays7_26 zi 0 cy (by omega) W1
          rw [s1, s2] at ha1
          have hsub1 : ∀ W1 : World, (callFunc 161 #[.int .u64 (zi : Int), .int .u64 0, .int .u64 (cy : Int)]).run Tryz.prog W1 = .ok (.value (.tuple #[.int .u64 (zn : Int), .int .u64 (cn : Int)])) W1 := ha1
          have p4 : IntKind.i64.wrap ((r : Int) + 1) = ((r + 1 : Nat) : Int) := by rw [IntKind.wrap_i64]; omega
          have hnmi : (r : Int) < (m : Int) := by omega
          have HS := Lib.hid hset
          have HKs := Lib.hid hKs
          have HC := Lib.hid (show cr (r + 1) = cn from hcn)
          clear hset hKs hT1 s1 s2 hcl ha1 hcn hM hBr h0 hrm
          go_wp2_with fail
          go_roundw
          case rel => exact ⟨r + 1, by omega, by omega, by go_num, by rw [HC.out], HS, HKs⟩
          case measure => simp [intOf]; omega
end Go.Proofs.YtibjogbalmbeeaaGreatDoor

namespace Go.Proofs.YtibjogbalmbeeaaGreatDoor
open Go.RowKit

theorem add_two (a : Addr) (i j : Nat) : (a.add i).add j = a.add (i + j) := by
  unfold Addr.add
  by_cases hi : i = 0 <;> by_cases hj : j = 0 <;> simp [hi, hj, Nat.add_assoc]
theorem Rd.drop {g : Nat} {w : World} {ad : Addr} {l : List Nat} (h : Rd g w (some ad) l) (k : Nat) : Rd g w (some (ad.add k)) (l.drop k) := fun hl => by
  rw [List.length_drop] at hl
  obtain ⟨ad', e, hg, hc⟩ := h (by omega)
  injection e with e
  subst e
  refine ⟨_, rfl, by rw [add_block]; exact hg, fun j hj => ?_⟩
  rw [List.length_drop] at hj
  rw [add_two, el_drop]
  exact hc (k + j) (by omega)

set_option maxRecDepth 100000 in
theorem cut_walk (A : Option Addr) (la ca a k : Nat) (w : World) (hA : RdU w A (toL a)) (hla : (toL a).length = la) (hca : la ≤ ca) (hs : la ≤ 60000) (hk : k ≤ 60000) :
    Calls Tryz.prog 198 #[.slice A la ca, .int .i64 (k : Int)] w fun e w' => ∃ A0 A1 c1, e = .returned (.tuple #[.slice A0 (toL (a % W64 ^ k)).length (toL (a % W64 ^ k)).length, .slice A1 (toL (a / W64 ^ k)).length c1]) ∧
      (toL (a / W64 ^ k)).length ≤ c1 ∧ (∀ g W, Rd g W A (toL a) → Rd g W A0 (toL (a % W64 ^ k)) ∧ Rd g W A1 (toL (a / W64 ^ k))) ∧ Below w.heap.size w w' := by
  have ha := (toL_length_le a la).1 (by omega)
  by_cases hkl : la ≤ k
  · have e1 : a % W64 ^ k = a := Nat.mod_eq_of_lt (Nat.lt_of_lt_of_le ha (Nat.pow_le_pow_right W64_pos hkl))
    have e2 : a / W64 ^ k = 0 := Nat.div_eq_of_lt (Nat.lt_of_lt_of_le ha (Nat.pow_le_pow_right W64_pos hkl))
    rw [e1, e2, toL_zero, hla]
    have ht := mtrim_walk A la la (toL a) w hla hA (Nat.le_refl _) (by omega)
    rw [trimTo_eq (Wd_toL a) _ (Nat.le_refl _), List.take_length, vl_toL, hla] at ht
    have HT := Lib.hid ht
    have hki : (la : Int) ≤ (k : Int) := by omega
    have hci : (la : Int) ≤ (ca : Int) := by omega
    clear ht ha hA hla e1 e2 hs hk
    go_enter Tryz.func198, Tryz.ntmps198
    go_wp2_with fail
    refine HT.out.mono ?_
    rintro e w1 ⟨rfl, rfl⟩
    go_wp2
    go_ret2
    exact ⟨A, none, 0, rfl, Nat.le_refl _, fun g W h => ⟨h, fun h => absurd h (by simp)⟩, Below.refl _ _⟩
  · have hk2 : k ≤ la := by omega
    have hl0 : ((toL a).take k).length = k := by rw [List.length_take]; omega
    have ht := fun W (h : RdU W A ((toL a).take k)) => mtrim_walk A k k ((toL a).take k) W hl0 h (Nat.le_refl _) (by omega)
    have htr : trimTo ((toL a).take k) ((toL a).take k).length = toL (a % W64 ^ k) := by
      rw [trimTo_eq (Wd_take (Wd_toL a) k) _ (Nat.le_refl _), List.take_length, vl_toL_take]
    rw [htr] at ht
    have hd := toL_drop a k
    have hdl : (toL (a / W64 ^ k)).length = la - k := by rw [← hd, List.length_drop, hla]
    have hrd : ∀ g W, Rd g W A (toL a) → Rd g W A (toL (a % W64 ^ k)) := fun g W h => by
      have h1 := trimTo_take (l := (toL a).take k) _ (Nat.le_refl _)
      rw [htr] at h1
      rw [h1]; exact (h.take k).take _
    obtain ⟨ad, rfl, _⟩ := hA (by omega)
    have hrd2 : ∀ g W, Rd g W (some ad) (toL a) → Rd g W (some (ad.add k)) (toL (a / W64 ^ k)) := fun g W h => by rw [← hd]; exact h.drop k
    have hr0 := hA.take k
    rw [hdl]
    have HQ := Lib.hid (show ∀ W, RdU W (some ad) ((toL a).take k) → Calls Tryz.prog 159 #[.slice (some ad) k k] W fun e w' => e = .returned (.slice (some ad) (toL (a % W64 ^ k)).length (toL (a % W64 ^ k)).length) ∧ w' = W from fun W hW => (ht W hW).mono (fun e w' h => ⟨h.1, h.2.symm⟩))
    have HR0 := Lib.hid hr0
    have HR := Lib.hid (show ∀ g W, Rd g W (some ad) (toL a) → Rd g W (some ad) (toL (a % W64 ^ k)) ∧ Rd g W (some (ad.add k)) (toL (a / W64 ^ k)) from fun g W h => ⟨hrd g W h, hrd2 g W h⟩)
    have hki : (k : Int) < (la : Int) := by omega
    have hki2 : (k : Int) ≤ (la : Int) := by omega
    have hci : (la : Int) ≤ (ca : Int) := by omega
    have hkc : (k : Int) ≤ (ca : Int) := by omega
    clear ht ha hA hla hs hk hl0 htr hd hdl hrd hrd2 hkl hk2 hr0
    go_enter Tryz.func198, Tryz.ntmps198
    go_wp2_with fail
    go_quiet ((go_at_call 159; exact Calls.quiet_of_same (HQ.out _ HR0.out)))
    go_wp2
    go_ret2
    exact ⟨some ad, some (ad.add k), la - k, rfl, Nat.le_refl _, HR.out, below_dn (Below.refl _ _) _⟩

/-- A number in a cell row of the caller's own: the slice, the block and what lies behind. -/
def OwnU (w : World) (v : Value) (g p : Nat) : Prop := ∃ rest, v = .slice (some ⟨g, 0, none⟩) (toL p).length (toL p).length ∧ Blk w g (toL p ++ rest)

set_option maxRecDepth 100000 in
set_option maxHeartbeats 1000000 in
theorem sum_walk (A B : Option Addr) (la lb ca cb a b : Nat) (w : World) (hA : RdU w A (toL a)) (hB : RdU w B (toL b)) (hla : (toL a).length = la) (hlb : (toL b).length = lb) (hca : la ≤ ca) (hcb : lb ≤ cb) (hs : la ≤ 20000) (hs2 : lb ≤ 20000) :
    Calls Tryz.prog 199 #[.slice A la ca, .slice B lb cb] w fun e w' => ∃ v g, e = .returned v ∧ OwnU w' v g (a + b) ∧ w.heap.size ≤ g ∧ Below w.heap.size w w' := by
  have hab : ∀ (A B : Option Addr) (la lb ca cb a b : Nat), RdU w A (toL a) → RdU w B (toL b) → (toL a).length = la → (toL b).length = lb → la ≤ ca → lb ≤ cb → la ≤ 20000 → lb ≤ la →
      Hid (∀ W, Below w.heap.size w W → Blk W w.heap.size (toL a ++ [0]) → Calls Tryz.prog 197 #[.slice (some ⟨w.heap.size, 0, none⟩) (la + 1) (la + 1), .slice B lb cb, .int .i64 0] W fun e w' => e = .returned (.tuple #[]) ∧ Blk w' w.heap.size (pad (la + 1) (a + b)) ∧ Below w.heap.size w w') ∧
      Hid (∀ W, Blk W w.heap.size (pad (la + 1) (a + b)) → Calls Tryz.prog 159 #[.slice (some ⟨w.heap.size, 0, none⟩) (la + 1) (la + 1)] W fun e w' => (∃ v, e = .returned v ∧ OwnU w' v w.heap.size (a + b)) ∧ w' = W) := by
    intro A B la lb ca cb a b hA hB hla hlb hca hcb hs hs2
    have ha := (toL_length_le a la).1 (by omega)
    have hb := (toL_length_le b la).1 (by omega)
    have hfit : a + b < W64 ^ (la + 1) := by
      rw [Nat.pow_succ]
      have h1 : W64 ^ la * 2 ≤ W64 ^ la * W64 := Nat.mul_le_mul_left _ (by rw [W64_num]; omega)
      omega
    have hpa : toL a ++ [0] = pad (la + 1) a := by rw [pad_app (by omega), hla, Nat.add_sub_cancel_left]; rfl
    refine ⟨Lib.hid fun W hb hB2 => ?_, Lib.hid fun W hB2 => ?_⟩
    · rw [hpa, ← List.append_nil (pad (la + 1) a)] at hB2
      have := addAt_walk w.heap.size (la + 1) [] B lb cb a b 0 (la + 1) W ((hB.away (Nat.le_refl _)).kb (KB.of hb)) hlb hcb hB2 (by rw [Nat.pow_zero, Nat.one_mul]; exact hfit) (by omega) (Nat.le_refl _) (by omega)
      rw [Nat.pow_zero, Nat.one_mul, List.append_nil] at this
      refine this.mono ?_
      rintro e w' ⟨h1, h2, h3⟩
      exact ⟨h1, h2, hb.trans (h3.below (Nat.le_refl _) hb.size)⟩
    · have ht := mtrim_walk (some ⟨w.heap.size, 0, none⟩) (la + 1) (la + 1) (pad (la + 1) (a + b)) W (pad_length _ _) hB2.read (Nat.le_refl _) (by omega)
      have h0 : trimTo (pad (la + 1) (a + b)) (pad (la + 1) (a + b)).length = toL (a + b) := by
        rw [trimTo_eq (Wd_pad _ _) _ (Nat.le_refl _), List.take_length, vl_pad_of hfit]
      rw [h0] at ht
      refine ht.mono ?_
      rintro e w' ⟨h1, rfl⟩
      refine ⟨⟨_, h1, List.replicate (la + 1 - (toL (a + b)).length) 0, rfl, ?_⟩, rfl⟩
      rw [← pad_app ((toL_length_le _ _).2 hfit)]; exact hB2
  by_cases hsw : la < lb
  · obtain ⟨HAd, HTr⟩ := hab B A lb la cb ca b a hB hA hlb hla hcb hca hs2 (by omega)
    rw [Nat.add_comm b a] at HAd HTr
    have hmk := make_u64 (lb + 1) (by omega)
    rw [show ((lb + 1 : Nat) : Int) = (lb : Int) + 1 by omega] at hmk
    have p1 : IntKind.i64.wrap ((lb : Int) + 1) = (lb : Int) + 1 := by rw [IntKind.wrap_i64]; omega
    have HR := Lib.hid hB
    have HL := Lib.hid (show (toL b).length = lb from hlb)
    have hswi : (la : Int) < (lb : Int) := by omega
    have hci : (lb : Int) ≤ (cb : Int) := by omega
    clear hA hB hla hlb hs hs2 hab
    go_enter Tryz.func199, Tryz.ntmps199
    go_wp2_with (with_reducible refine wpList_copy_splice rfl (.tmp 17) (.tmp 18) 67 67 rfl 23 Tryz.underlying67 (by kernel_rfl) (some ⟨w.heap.size, 0, none⟩) B (lb + 1) (lb + 1) lb cb rfl rfl w.heap.size 0 (U (List.replicate (lb + 1) 0)).toList 23 ?c1 (U (toL b)).toList ?c2 ?c3 ?c4 ?c5 w.heap.size w ?c6 (Nat.le_refl _) ?_)
    case c1 => exact Blk.new w _
    case c2 => simp [U, HL.out]
    case c3 =>
      intro hp
      obtain ⟨ad, e, hcl⟩ := HR.out (by simpa [U] using hp)
      refine ⟨ad, e, fun j v hj => ?_⟩
      have hj2 : j < (toL b).length := by
        by_cases h : j < (toL b).length
        · exact h
        · simp [U, Nat.le_of_not_lt h] at hj
      have hu := U_get hj2
      rw [hj] at hu
      rw [hu]
      exact cell_kept ((Below.refl _ _).alloc (Nat.le_refl _) _) (hcl j hj2)
    case c4 => simp [U]; have := HL.out; omega
    case c5 =>
      intro v hv
      simp [U] at hv
      obtain ⟨x, _, rfl⟩ := hv
      rfl
    case c6 => exact (Below.refl _ _).alloc (Nat.le_refl _) _
    intro w1 h1 hb1
    have hB1 : Blk w1 w.heap.size (toL b ++ [0]) := by
      have h2 := h1.out
      have e : splice (U (List.replicate (lb + 1) 0)).toList 0 (U (toL b)).toList = (U (toL b ++ [0])).toList := by
        simp [splice, U, HL.out]
      rw [e] at h2
      exact h2
    have HB1 := Lib.hid hB1
    have HW1 := Lib.hid hb1
    clear hB1 h1 hb1 hmk p1
    go_wp2_with fail
    refine (HAd.out _ HW1.out HB1.out).mono ?_
    rintro e w2 ⟨rfl, hB2, hb2⟩
    have HB2 := Lib.hid hB2
    have HW2 := Lib.hid hb2
    clear hB2 hb2
    go_wp2_with fail
    refine (HTr.out _ HB2.out).mono ?_
    rintro e w3 ⟨⟨v, rfl, hv⟩, rfl⟩
    have HV := Lib.hid hv
    clear hv
    go_wp2
    go_ret
    exact ⟨v, _, rfl, HV.out, Nat.le_refl _, HW2.out⟩
  · obtain ⟨HAd, HTr⟩ := hab A B la lb ca cb a b hA hB hla hlb hca hcb hs (by omega)
    have hmk := make_u64 (la + 1) (by omega)
    rw [show ((la + 1 : Nat) : Int) = (la : Int) + 1 by omega] at hmk
    have p1 : IntKind.i64.wrap ((la : Int) + 1) = (la : Int) + 1 := by rw [IntKind.wrap_i64]; omega
    have HR := Lib.hid hA
    have HL := Lib.hid (show (toL a).length = la from hla)
    have hswi : ¬ (la : Int) < (lb : Int) := by omega
    have hci : (la : Int) ≤ (ca : Int) := by omega
    clear hA hB hla hlb hs hs2 hab
    go_enter Tryz.func199, Tryz.ntmps199
    go_wp2_with (with_reducible refine wpList_copy_splice rfl (.tmp 17) (.tmp 18) 67 67 rfl 23 Tryz.underlying67 (by kernel_rfl) (some ⟨w.heap.size, 0, none⟩) A (la + 1) (la + 1) la ca rfl rfl w.heap.size 0 (U (List.replicate (la + 1) 0)).toList 23 ?d1 (U (toL a)).toList ?d2 ?d3 ?d4 ?d5 w.heap.size w ?d6 (Nat.le_refl _) ?_)
    case d1 => first | exact Blk.new w _ | exact (Array.getElem?_eq_some_iff.1 (Blk.new w (List.replicate (la + 1) 0))).2 | simp
    case d2 => simp [U, HL.out]
    case d3 =>
      intro hp
      obtain ⟨ad, e, hcl⟩ := HR.out (by simpa [U] using hp)
      refine ⟨ad, e, fun j v hj => ?_⟩
      have hj2 : j < (toL a).length := by
        by_cases h : j < (toL a).length
        · exact h
        · simp [U, Nat.le_of_not_lt h] at hj
      have hu := U_get hj2
      rw [hj] at hu
      rw [hu]
      exact cell_kept ((Below.refl _ _).alloc (Nat.le_refl _) _) (hcl j hj2)
    case d4 => simp [U]; have := HL.out; omega
    case d5 =>
      intro v hv
      simp [U] at hv
      obtain ⟨x, _, rfl⟩ := hv
      rfl
    case d6 => exact (Below.refl _ _).alloc (Nat.le_refl _) _
    intro w1 h1 hb1
    have hB1 : Blk w1 w.heap.size (toL a ++ [0]) := by
      have h2 := h1.out
      have e : splice (U (List.replicate (la + 1) 0)).toList 0 (U (toL a)).toList = (U (toL a ++ [0])).toList := by
        simp [splice, U, HL.out]
      rw [e] at h2
      exact h2
    have HB1 := Lib.hid hB1
    have HW1 := Lib.hid hb1
    clear hB1 h1 hb1 hmk p1
    go_wp2_with fail
    refine (HAd.out _ HW1.out HB1.out).mono ?_
    rintro e w2 ⟨rfl, hB2, hb2⟩
    have HB2 := Lib.hid hB2
    have HW2 := Lib.hid hb2
    clear hB2 hb2
    go_wp2_with fail
    refine (HTr.out _ HB2.out).mono ?_
    rintro e w3 ⟨⟨v, rfl, hv⟩, rfl⟩
    have HV := Lib.hid hv
    clear hv
    go_wp2
    go_ret
    exact ⟨v, _, rfl, HV.out, Nat.le_refl _, HW2.out⟩
end Go.Proofs.YtibjogbalmbeeaaGreatDoor

namespace Go.Proofs.YtibjogbalmbeeaaGreatDoor
open Go.RowKit

theorem KB.row {g : Nat} (w : World) (cs : Array Value) : KB g w (w.setRow g cs) := ⟨rfl, rfl, rfl, by simp [World.setRow], fun k _ hk => setRow_other w g k cs hk⟩
/-- copy into a row of the caller's own, all else kept. -/
theorem wpList_copy_u {w : World} {ops : Array Oper} {rest : List Oper} {o : Oper} {a : Act} {Q : Exit → Act → World → Prop} (hgd : o.guard = none) (d s : Operand)
    (ho : o.op = .call { callee := .builtin .copy, args := #[d, s], argTypes := #[67, 67] }) (g dLen dCap sLen sCap : Nat) (sp : Option Addr)
    (hd : a.eval d = .slice (some ⟨g, 0, none⟩) dLen dCap) (hs : a.eval s = .slice sp sLen sCap) (l cur : List Nat) (hl : l.length = sLen) (hle : sLen ≤ dLen) (hB : Blk w g cur) (hfit : sLen ≤ cur.length) (hr : Rd g w sp l)
    (h : ∀ w', Hid (Blk w' g (l ++ cur.drop sLen)) → Hid (KB g w w') → wpList Tryz.prog ops Q rest (a.put o.dst (goInt (sLen : Int))) w') : wpList Tryz.prog ops Q (o :: rest) a w := by
  by_cases h0 : sLen = 0
  · refine wpList_copy_nothing hgd d s 67 67 ho 23 Tryz.underlying67 (by kernel_rfl) (some ⟨g, 0, none⟩) sp dLen dCap sLen sCap hd hs (by rw [h0]; simp) ?_
    have hl0 : l = [] := List.eq_nil_of_length_eq_zero (by omega)
    have := h w (Lib.hid (by rw [hl0, h0]; exact hB)) (Lib.hid (KB.refl g w))
    rw [h0] at this
    exact this
  · obtain ⟨ad, rfl, _, hc⟩ := hr (by omega)
    have e : ((U cur).toList.take 0 ++ ((U l).toList ++ (U cur).toList.drop (0 + (U l).toList.length))).toArray = U (l ++ cur.drop sLen) := by
      simp [U, hl, List.map_drop]
    refine wpList_copy_own hgd d s 67 67 ho 23 Tryz.underlying67 (by kernel_rfl) g 0 dLen dCap ad sLen sCap hd hs (U cur) 23 hB (U l).toList (by rw [show Nat.min sLen dLen = sLen from Nat.min_eq_left hle]; simp [U, hl]) ?_ (by simp [U, hl]; exact hfit) ?_ ?_
    · intro j v hj
      have hj2 : j < l.length := by
        by_cases h : j < l.length
        · exact h
        · simp [U, Nat.le_of_not_lt h] at hj
      have hu := U_get hj2
      rw [← Array.getElem?_toList, hj] at hu
      injection hu with hu
      rw [hu]; exact hc j hj2
    · intro v hv
      simp [U] at hv
      obtain ⟨x, _, rfl⟩ := hv
      rfl
    · have hlen : ((U l).toList.length : Int) = (sLen : Int) := by simp [U, hl]
      rw [hlen, e]
      refine h _ (Lib.hid ?_) (Lib.hid (KB.row w _))
      exact setRow_heap w g _ _ 23 _ hB

def FillOk (a b : Nat) : Prop := ∀ (g cz : Nat) (rest : List Nat) (A B : Option Addr) (la lb ca cb : Nat) (w : World), Rd g w A (toL a) → Rd g w B (toL b) → (toL a).length = la → (toL b).length = lb → la ≤ ca → lb ≤ cb →
  Blk w g (List.replicate (la + lb) 0 ++ rest) → la + lb ≤ cz → la ≤ 10000 → lb ≤ 10000 →
  Calls Tryz.prog 158 #[.slice (some ⟨g, 0, none⟩) (la + lb) cz, .slice A la ca, .slice B lb cb] w fun e w' => e = .returned (.tuple #[]) ∧ Blk w' g (pad (la + lb) (a * b) ++ rest) ∧ KB g w w'
def ProdOk (a b : Nat) : Prop := ∀ (A B : Option Addr) (la lb ca cb : Nat) (w : World), RdU w A (toL a) → RdU w B (toL b) → (toL a).length = la → (toL b).length = lb → la ≤ ca → lb ≤ cb → la ≤ 10000 → lb ≤ 10000 →
  Calls Tryz.prog 127 #[.slice A la ca, .slice B lb cb] w fun e w' => ∃ v g, e = .returned v ∧ OwnU w' v g (a * b) ∧ w.heap.size ≤ g ∧ Below w.heap.size w w'
theorem mul_limbs (a b : Nat) : a * b < W64 ^ ((toL a).length + (toL b).length) := by
  have ha := (toL_length_le a _).1 (Nat.le_refl _)
  have hb := (toL_length_le b _).1 (Nat.le_refl _)
  rw [Nat.pow_add]
  exact Nat.mul_lt_mul'' ha hb

set_option maxRecDepth 100000 in
set_option maxHeartbeats 1000000 in
theorem prod_of_fill {a b : Nat} (hF : FillOk a b) : ProdOk a b := by
  intro A B la lb ca cb w hA hB hla hlb hca hcb hs hs2
  have hfit := mul_limbs a b
  rw [hla, hlb] at hfit
  have hmk := make_u64 (la + lb) (by omega)
  rw [show ((la + lb : Nat) : Int) = (la : Int) + (lb : Int) by omega] at hmk
  have p1 : IntKind.i64.wrap ((la : Int) + (lb : Int)) = (la : Int) + (lb : Int) := by rw [IntKind.wrap_i64]; omega
  have hw0 := below_alloc' w (.cells (U (List.replicate (la + lb) 0)) 23)
  have hF1 := hF w.heap.size (la + lb) [] A B la lb ca cb (w.alloc (.cells (U (List.replicate (la + lb) 0)) 23)) ((hA.away (Nat.le_refl _)).kb (KB.of hw0)) ((hB.away (Nat.le_refl _)).kb (KB.of hw0)) hla hlb hca hcb (by rw [List.append_nil]; exact Blk.new w _) (Nat.le_refl _) hs hs2
  rw [List.append_nil] at hF1
  have HF := Lib.hid hF1
  have hT : ∀ W, Blk W w.heap.size (pad (la + lb) (a * b)) → Calls Tryz.prog 159 #[.slice (some ⟨w.heap.size, 0, none⟩) (la + lb) (la + lb)] W fun e w' => (∃ v, e = .returned v ∧ OwnU w' v w.heap.size (a * b)) ∧ w' = W := by
    intro W hB2
    have ht := mtrim_walk (some ⟨w.heap.size, 0, none⟩) (la + lb) (la + lb) (pad (la + lb) (a * b)) W (pad_length _ _) hB2.read (Nat.le_refl _) (by omega)
    have h0 : trimTo (pad (la + lb) (a * b)) (pad (la + lb) (a * b)).length = toL (a * b) := by
      rw [trimTo_eq (Wd_pad _ _) _ (Nat.le_refl _), List.take_length, vl_pad_of hfit]
    rw [h0] at ht
    refine ht.mono ?_
    rintro e w' ⟨h1, rfl⟩
    refine ⟨⟨_, h1, List.replicate (la + lb - (toL (a * b)).length) 0, rfl, ?_⟩, rfl⟩
    rw [← pad_app ((toL_length_le _ _).2 hfit)]; exact hB2
  have HT := Lib.hid hT
  have HW0 := Lib.hid hw0
  clear hF1 hT hfit hA hB hla hlb hs hs2 hF hw0
  go_enter Tryz.func127, Tryz.ntmps127
  go_wp2_with fail
  refine HF.out.mono ?_
  rintro e w1 ⟨rfl, hB1, hk1⟩
  have HB1 := Lib.hid hB1
  have HW1 := Lib.hid (show Below w.heap.size w w1 from HW0.out.trans (hk1.below (Nat.le_refl _) HW0.out.size))
  clear hB1 hk1
  go_wp2_with fail
  refine (HT.out _ HB1.out).mono ?_
  rintro e w2 ⟨⟨v, rfl, hv⟩, rfl⟩
  have HV := Lib.hid hv
  clear hv
  go_wp2
  go_ret
  exact ⟨v, _, rfl, HV.out, Nat.le_refl _, HW1.out⟩
end Go.Proofs.YtibjogbalmbeeaaGreatDoor

namespace Go.Proofs.YtibjogbalmbeeaaGreatDoor
open Go.RowKit

/-- A number that lies in front of a block. -/
theorem Blk.front {w : World} {g g' p : Nat} {rest : List Nat} (h : Blk w g' (toL p ++ rest)) (hg : g' ≠ g) : Rd g w (some ⟨g', 0, none⟩) (toL p) := by
  have h1 := (h.rd hg).take (toL p).length
  rw [List.take_left] at h1
  exact h1
theorem pad_front {n p : Nat} (h : (toL p).length ≤ n) (rest : List Nat) : pad n p ++ rest = toL p ++ (List.replicate (n - (toL p).length) 0 ++ rest) := by
  rw [pad_app h, List.append_assoc]
theorem len_le {a k : Nat} (h : a < W64 ^ k) : (toL a).length ≤ k := (toL_length_le a k).2 h
theorem len_lt (a : Nat) : a < W64 ^ (toL a).length := (toL_length_le a _).1 (Nat.le_refl _)

set_option maxRecDepth 100000 in
set_option maxHeartbeats 2000000 in
theorem thirds_walk {a b : Nat} (hP : ∀ a' b', (toL a').length + (toL b').length < (toL a).length + (toL b).length → ProdOk a' b') (g cz : Nat) (rest : List Nat) (A B : Option Addr) (la lb ca cb : Nat) (w : World) (hA : Rd g w A (toL a)) (hB : Rd g w B (toL b))
    (hla : (toL a).length = la) (hlb : (toL b).length = lb) (hca : la ≤ ca) (hcb : lb ≤ cb) (hz : Blk w g (List.replicate (la + lb) 0 ++ rest)) (hcz : la + lb ≤ cz) (hs : la ≤ 10000) (hs2 : lb ≤ 10000) (hge : lb ≤ la) (h4 : 4 ≤ lb) :
    Calls Tryz.prog 177 #[.slice (some ⟨g, 0, none⟩) (la + lb) cz, .slice A la ca, .slice B lb cb] w fun e w' => e = .returned (.tuple #[]) ∧ Blk w' g (pad (la + lb) (a * b) ++ rest) ∧ KB g w w' := by
  obtain ⟨k, hk⟩ : ∃ k, (la + 1) / 2 = k := ⟨_, rfl⟩
  have ha := len_lt a
  have hb := len_lt b
  rw [hla] at ha
  rw [hlb] at hb
  have hm := mul_limbs a b
  rw [hla, hlb] at hm
  have ha0 : a % W64 ^ k < W64 ^ k := Nat.mod_lt _ (Nat.pow_pos W64_pos)
  have hb0 : b % W64 ^ k < W64 ^ k := Nat.mod_lt _ (Nat.pow_pos W64_pos)
  have ha1 : a / W64 ^ k < W64 ^ (la - k) := by rw [Nat.div_lt_iff_lt_mul (Nat.pow_pos W64_pos), ← Nat.pow_add, Nat.sub_add_cancel (by omega)]; exact ha
  have hb1 : b / W64 ^ k < W64 ^ (la - k) := by
    rw [Nat.div_lt_iff_lt_mul (Nat.pow_pos W64_pos), ← Nat.pow_add, Nat.sub_add_cancel (by omega)]
    exact Nat.lt_of_lt_of_le hb (Nat.pow_le_pow_right W64_pos hge)
  have hkk : W64 ^ (la - k) ≤ W64 ^ k := Nat.pow_le_pow_right W64_pos (by omega)
  have hk1 : W64 ^ k * 2 ≤ W64 ^ (k + 1) := by rw [Nat.pow_succ]; exact Nat.mul_le_mul_left _ (by rw [W64_num]; omega)
  have l1 := len_le ha0
  have l2 := len_le hb0
  have l3 := len_le ha1
  have l4 := len_le hb1
  have l5 : (toL (a % W64 ^ k + a / W64 ^ k)).length ≤ k + 1 := len_le (by omega)
  have l6 : (toL (b % W64 ^ k + b / W64 ^ k)).length ≤ k + 1 := len_le (by omega)
  have P1 := hP (a % W64 ^ k) (b % W64 ^ k) (by omega)
  have P2 := hP (a / W64 ^ k) (b / W64 ^ k) (by omega)
  have P3 := hP (a % W64 ^ k + a / W64 ^ k) (b % W64 ^ k + b / W64 ^ k) (by omega)
  have hall := halves_all (W64 ^ k) (a % W64 ^ k) (a / W64 ^ k) (b % W64 ^ k) (b / W64 ^ k)
  rw [cut_sum, cut_sum] at hall
  obtain ⟨m1, m2, m3⟩ := halves_mid (a % W64 ^ k) (a / W64 ^ k) (b % W64 ^ k) (b / W64 ^ k)
  rw [← m1] at hall
  have HCa := Lib.hid (fun W h => cut_walk A la ca a k W h hla hca (by omega) (by omega))
  have HCb := Lib.hid (fun W h => cut_walk B lb cb b k W h hlb hcb (by omega) (by omega))
  generalize a % W64 ^ k = a0 at *
  generalize a / W64 ^ k = a1 at *
  generalize b % W64 ^ k = b0 at *
  generalize b / W64 ^ k = b1 at *
  have HA := Lib.hid hA
  have HB := Lib.hid hB
  have HZ := Lib.hid hz
  have HP1 := Lib.hid P1
  have HP2 := Lib.hid P2
  have HP3 := Lib.hid P3
  have HLn := Lib.hid (show (toL a0).length ≤ k ∧ (toL b0).length ≤ k ∧ (toL a1).length ≤ k ∧ (toL b1).length ≤ k ∧ (toL (a0 + a1)).length ≤ k + 1 ∧ (toL (b0 + b1)).length ≤ k + 1 ∧ k ≤ 5001 from ⟨l1, l2, by omega, by omega, l5, l6, by omega⟩)
  obtain ⟨M, hM⟩ : ∃ M, (a0 + a1) * (b0 + b1) = M := ⟨_, rfl⟩
  obtain ⟨L, hL⟩ : ∃ L, a0 * b0 = L := ⟨_, rfl⟩
  obtain ⟨H, hH⟩ : ∃ H, a1 * b1 = H := ⟨_, rfl⟩
  obtain ⟨P, hPP⟩ : ∃ P, a * b = P := ⟨_, rfl⟩
  have lM : (toL M).length ≤ 60000 := by
    have h1 := mul_limbs (a0 + a1) (b0 + b1)
    rw [hM] at h1
    have := len_le h1
    omega
  have HlM := Lib.hid lM
  rw [hM, hL, hH] at hall m3
  rw [hM, hL] at m2
  rw [hPP] at hall hm ⊢
  obtain ⟨N, hN⟩ : ∃ N, la + lb = N := ⟨_, rfl⟩
  rw [hN] at hz hcz hm ⊢
  rw [hN] at HZ
  have e2k : W64 ^ k * W64 ^ k = W64 ^ (2 * k) := by rw [← Nat.pow_add]; congr 1; omega
  rw [e2k] at hall
  have hfit1 : L + W64 ^ k * (M - L - H) < W64 ^ N := by rw [hall] at hm; omega
  have hfit2 : L + W64 ^ k * (M - L - H) + W64 ^ (2 * k) * H < W64 ^ N := by rw [← hall]; exact hm
  have HF := Lib.hid (show L < W64 ^ N ∧ L + W64 ^ k * (M - L - H) < W64 ^ N ∧ L + W64 ^ k * (M - L - H) + W64 ^ (2 * k) * H = P ∧ L + W64 ^ k * (M - L - H) + W64 ^ (2 * k) * H < W64 ^ N from ⟨by omega, hfit1, hall.symm, hfit2⟩)
  have HMM := Lib.hid (show L ≤ M ∧ H ≤ M - L from ⟨m2, m3⟩)
  have HNN := Lib.hid (show k ≤ N ∧ 2 * k ≤ N ∧ N ≤ 20000 ∧ N ≤ cz ∧ (la + 1) / 2 = k ∧ la ≤ 10000 from ⟨by omega, by omega, by omega, hcz, hk, hs⟩)
  have p1 : IntKind.i64.wrap ((la : Int) + 1) = (la : Int) + 1 := by rw [IntKind.wrap_i64]; omega
  have p2 : IntKind.i64.wrap (((la : Int) + 1).tdiv 2) = (k : Int) := by rw [Int.tdiv_eq_ediv_of_nonneg (by omega), IntKind.wrap_i64]; omega
  have p2' : ((la : Int) + 1) / 2 = (k : Int) := by omega
  have p2'' : IntKind.i64.wrap (k : Int) = (k : Int) := by rw [IntKind.wrap_i64]; omega
  have p3 : IntKind.i64.wrap (2 * (k : Int)) = ((2 * k : Nat) : Int) := by rw [IntKind.wrap_i64]; omega
  have hgw := hz.lt
  have HG := Lib.hid hgw
  clear ha hb hm ha0 hb0 ha1 hb1 hkk hk1 l1 l2 l3 l4 l5 l6 P1 P2 P3 hP hall m1 m2 m3 hA hB hz hcz hs hs2 hge h4 hfit1 hfit2 hN hk hgw e2k lM
  go_enter Tryz.func177, Tryz.ntmps177
  go_wp2_with fail
  refine (HCa.out _ HA.out.rdU).mono ?_
  rintro e w1 ⟨A0, A1, c1, rfl, hc1, hra, hb1⟩
  have HW1 := Lib.hid hb1
  have HRA := Lib.hid hra
  have HC1 := Lib.hid hc1
  clear hb1 hra hc1
  go_wp2_with fail
  refine (HCb.out _ (HB.out.kb (KB.of HW1.out)).rdU).mono ?_
  rintro e w2 ⟨B0, B1, c2, rfl, hc2, hrb, hb2⟩
  have HW2 := Lib.hid (below_chain HW1.out hb2)
  have HRB := Lib.hid hrb
  have HC2 := Lib.hid hc2
  clear hb2 hrb hc2
  go_wp2_with fail
  refine (HP1.out _ _ _ _ _ _ _ ((HRA.out g w HA.out).1.kb (KB.of HW2.out)).rdU ((HRB.out g w HB.out).1.kb (KB.of HW2.out)).rdU rfl rfl (Nat.le_refl _) (Nat.le_refl _) (by have := HLn.out; omega) (by have := HLn.out; omega)).mono ?_
  rintro e w3 ⟨v3, g3, rfl, ho3, hg3, hb3⟩
  rw [hL] at ho3
  have HO3 := Lib.hid ho3
  have HW3 := Lib.hid (below_chain HW2.out hb3)
  have HG3 := Lib.hid (show w.heap.size ≤ g3 from Nat.le_trans HW2.out.size hg3)
  clear ho3 hg3 hb3
  go_wp2_with fail
  refine (HP2.out _ _ _ _ _ _ _ ((HRA.out g w HA.out).2.kb (KB.of HW3.out)).rdU ((HRB.out g w HB.out).2.kb (KB.of HW3.out)).rdU rfl rfl HC1.out HC2.out (by have := HLn.out; omega) (by have := HLn.out; omega)).mono ?_
  rintro e w4 ⟨v4, g4, rfl, ho4, hg4, hb4⟩
  rw [hH] at ho4
  have HO4 := Lib.hid ho4
  have HW4 := Lib.hid (below_chain HW3.out hb4)
  have HG4 := Lib.hid (show w.heap.size ≤ g4 from Nat.le_trans HW3.out.size hg4)
  obtain ⟨r3, rfl, hB3⟩ := HO3.out
  have HB3 := Lib.hid (hB3.below hb4)
  have HX34 := Lib.hid (show g3 < g4 from Nat.lt_of_lt_of_le hB3.lt hg4)
  clear ho4 hg4 hb4 hB3 HO3
  go_wp2_with fail
  refine (sum_walk _ _ _ _ _ _ _ _ _ ((HRA.out g w HA.out).1.kb (KB.of HW4.out)).rdU ((HRA.out g w HA.out).2.kb (KB.of HW4.out)).rdU rfl rfl (Nat.le_refl _) HC1.out (by have := HLn.out; omega) (by have := HLn.out; omega)).mono ?_
  rintro e w5 ⟨v5, g5, rfl, ho5, hg5, hb5⟩
  have HO5 := Lib.hid ho5
  have HW5 := Lib.hid (below_chain HW4.out hb5)
  obtain ⟨r4, rfl, hB4⟩ := HO4.out
  have HB4 := Lib.hid (hB4.below hb5)
  have HB3' := Lib.hid (HB3.out.below hb5)
  have HX45 := Lib.hid (show g4 < w5.heap.size from Nat.lt_of_lt_of_le hB4.lt hb5.size)
  clear ho5 hg5 hb5 hB4 HO4 HB3
  go_wp2_with fail
  refine (sum_walk _ _ _ _ _ _ _ _ _ ((HRB.out g w HB.out).1.kb (KB.of HW5.out)).rdU ((HRB.out g w HB.out).2.kb (KB.of HW5.out)).rdU rfl rfl (Nat.le_refl _) HC2.out (by have := HLn.out; omega) (by have := HLn.out; omega)).mono ?_
  rintro e w6 ⟨v6, g6, rfl, ho6, hg6, hb6⟩
  have HW6 := Lib.hid (below_chain HW5.out hb6)
  obtain ⟨r5, rfl, hB5⟩ := HO5.out
  obtain ⟨r6, rfl, hB6⟩ := ho6
  have HR5 := Lib.hid (show RdU w6 (some ⟨g5, 0, none⟩) (toL (a0 + a1)) from ((hB5.below hb6).front (g := g5 + 1) (by omega)).rdU)
  have HR6 := Lib.hid (show RdU w6 (some ⟨g6, 0, none⟩) (toL (b0 + b1)) from (hB6.front (g := g6 + 1) (by omega)).rdU)
  have HB4' := Lib.hid (HB4.out.below hb6)
  have HB3 := Lib.hid (HB3'.out.below hb6)
  have HX46 := Lib.hid (show g4 < w6.heap.size from Nat.lt_of_lt_of_le HX45.out hb6.size)
  clear hg6 hb6 hB5 hB6 HO5 HB4 HB3'
  go_wp2_with fail
  refine (HP3.out _ _ _ _ _ _ _ HR5.out HR6.out rfl rfl (Nat.le_refl _) (Nat.le_refl _) (by have := HLn.out; omega) (by have := HLn.out; omega)).mono ?_
  rintro e w7 ⟨v7, g7, rfl, ho7, hg7, hb7⟩
  rw [hM] at ho7
  have HW7 := Lib.hid (below_chain HW6.out hb7)
  obtain ⟨r7, rfl, hB7⟩ := ho7
  have HB7 := Lib.hid hB7
  have HB4 := Lib.hid (HB4'.out.below hb7)
  have HB3' := Lib.hid (HB3.out.below hb7)
  have HX47 := Lib.hid (show g3 < g7 ∧ g4 < g7 ∧ w.heap.size ≤ g7 ∧ g < g7 from by have := HX46.out; have := HX34.out; have := HG4.out; have := HG.out; omega)
  clear hg7 hb7 hB7 HB4' HB3 HR5 HR6
  go_wp2_with fail
  have hz7 := HB7.out
  rw [← pad_toL (a := M) rfl] at hz7
  refine (takeAway_walk g7 (toL M).length r7 (some ⟨g3, 0, none⟩) (toL L).length (toL L).length M L (toL M).length w7 (HB3'.out.front (by have := HX47.out; omega)) rfl (Nat.le_refl _) hz7 (len_lt M) HMM.out.1 (Nat.le_refl _) HlM.out).mono ?_
  rintro e w8 ⟨rfl, hz8, hk8⟩
  have HZ8 := Lib.hid hz8
  have HB4 := Lib.hid (HB4.out.kb hk8 (by have := HX47.out; omega))
  have HB3 := Lib.hid (HB3'.out.kb hk8 (by have := HX47.out; omega))
  have HW8 := Lib.hid (HW7.out.trans (hk8.below HX47.out.2.2.1 HW7.out.size))
  clear hz7 hz8 hk8 HB7 HB3'
  go_wp2_with fail
  refine (takeAway_walk g7 (toL M).length r7 (some ⟨g4, 0, none⟩) (toL H).length (toL H).length (M - L) H (toL M).length w8 (HB4.out.front (by have := HX47.out; omega)) rfl (Nat.le_refl _) HZ8.out (Nat.lt_of_le_of_lt (Nat.sub_le _ _) (len_lt M)) HMM.out.2 (Nat.le_refl _) HlM.out).mono ?_
  rintro e w9 ⟨rfl, hz9, hk9⟩
  have HZ9 := Lib.hid hz9
  have HB4' := Lib.hid (HB4.out.kb hk9 (by have := HX47.out; omega))
  have HB3' := Lib.hid (HB3.out.kb hk9 (by have := HX47.out; omega))
  have HW9 := Lib.hid (HW8.out.trans (hk9.below HX47.out.2.2.1 HW8.out.size))
  have HZg := Lib.hid (HZ.out.kb (g := g + 1) (KB.of HW9.out) (by omega))
  have HlL := Lib.hid (len_le HF.out.1)
  clear hz9 hk9 HZ8 HB3 HB4
  go_wp2_with (with_reducible refine wpList_copy_u rfl (.tmp 49) (.tmp 50) rfl g N cz (toL L).length (toL L).length (some ⟨g3, 0, none⟩) rfl rfl (toL L) (List.replicate N 0 ++ rest) rfl HlL.out HZg.out (by rw [List.length_append, List.length_replicate]; have := HlL.out; omega) (HB3'.out.front (by have := HG3.out; have := HG.out; omega)) ?_)
  intro w10 hz10 hk10
  have hz10' : Blk w10 g (pad N L ++ rest) := by
    have h := hz10.out
    rw [pad_app HlL.out, List.append_assoc]
    rw [List.drop_append_of_le_length (by rw [List.length_replicate]; exact HlL.out), List.drop_replicate] at h
    exact h
  have HZ10 := Lib.hid hz10'
  have HB4 := Lib.hid (HB4'.out.kb hk10.out (by have := HG4.out; have := HG.out; omega))
  have HM10 := Lib.hid (HZ9.out.kb hk10.out (by have := HX47.out; omega))
  have HK10 := Lib.hid ((KB.of HW9.out).trans hk10.out)
  clear hz10 hz10' hk10 HB4' HB3' HZg HZ9
  go_wp2_with fail
  have hlt : M - L - H < W64 ^ (toL M).length := Nat.lt_of_le_of_lt (Nat.le_trans (Nat.sub_le _ _) (Nat.sub_le _ _)) (len_lt M)
  have ht := mtrim_walk (some ⟨g7, 0, none⟩) (toL M).length (toL M).length (pad (toL M).length (M - L - H)) w10 (pad_length _ _) (by
    have h1 := (HM10.out.rd (g := g7 + 1) (by omega)).take (toL M).length
    rw [List.take_append_of_le_length (by rw [pad_length]; exact Nat.le_refl _), List.take_of_length_le (by rw [pad_length]; exact Nat.le_refl _)] at h1
    exact h1.rdU) (Nat.le_refl _) (by have := HlM.out; omega)
  rw [trimTo_eq (Wd_pad _ _) _ (Nat.le_refl _), List.take_length, vl_pad_of hlt] at ht
  refine ht.mono ?_
  rintro e w11 ⟨rfl, rfl⟩
  have hm10 := HM10.out
  rw [pad_front (len_le hlt)] at hm10
  have HM11 := Lib.hid hm10
  clear ht hlt hm10 HM10
  go_wp2_with fail
  refine (addAt_walk g cz rest (some ⟨g7, 0, none⟩) _ _ L (M - L - H) k N _ (HM11.out.front (by have := HX47.out; omega)) rfl (Nat.le_refl _) HZ10.out HF.out.2.1 HNN.out.1 HNN.out.2.2.2.1 (by have := HNN.out; omega)).mono ?_
  rintro e w12 ⟨rfl, hz12, hk12⟩
  have HZ12 := Lib.hid hz12
  have HB4' := Lib.hid (HB4.out.kb hk12 (by have := HG4.out; have := HG.out; omega))
  have HK12 := Lib.hid (HK10.out.trans hk12)
  clear hz12 hk12 HB4
  go_wp2_with fail
  refine (addAt_walk g cz rest (some ⟨g4, 0, none⟩) _ _ (L + W64 ^ k * (M - L - H)) H (2 * k) N _ (HB4'.out.front (by have := HG4.out; have := HG.out; omega)) rfl (Nat.le_refl _) HZ12.out HF.out.2.2.2 HNN.out.2.1 HNN.out.2.2.2.1 (by have := HNN.out; omega)).mono ?_
  rintro e w13 ⟨rfl, hz13, hk13⟩
  rw [HF.out.2.2.1] at hz13
  have HZ13 := Lib.hid hz13
  have HK13 := Lib.hid (HK12.out.trans hk13)
  clear hz13 hk13
  go_wp2
  go_end0
  exact ⟨rfl, HZ13.out, HK13.out⟩
end Go.Proofs.YtibjogbalmbeeaaGreatDoor

namespace Go.Proofs.YtibjogbalmbeeaaGreatDoor
open Go.RowKit

theorem piece_eq {a la p lb : Nat} (ha : a < W64 ^ la) (hp : p ≤ la) : vl (((toL a).drop p).take (min (p + lb) la - p)) = a / W64 ^ p % W64 ^ lb := by
  rw [toL_drop, vl_toL_take]
  by_cases h : p + lb ≤ la
  · rw [Nat.min_eq_left h, Nat.add_sub_cancel_left]
  · rw [Nat.min_eq_right (by omega)]
    have h1 : a / W64 ^ p < W64 ^ (la - p) := by rw [Nat.div_lt_iff_lt_mul (Nat.pow_pos W64_pos), ← Nat.pow_add, Nat.sub_add_cancel hp]; exact ha
    rw [Nat.mod_eq_of_lt h1, Nat.mod_eq_of_lt (Nat.lt_of_lt_of_le h1 (Nat.pow_le_pow_right W64_pos (by omega)))]

set_option maxRecDepth 100000 in
set_option maxHeartbeats 2000000 in
theorem slabs_walk {a b : Nat} (hP : ∀ a' b', (toL a').length + (toL b').length < (toL a).length + (toL b).length → ProdOk a' b') (g cz : Nat) (rest : List Nat) (A B : Option Addr) (la lb ca cb : Nat) (w : World) (hA : Rd g w A (toL a)) (hB : Rd g w B (toL b))
    (hla : (toL a).length = la) (hlb : (toL b).length = lb) (hca : la ≤ ca) (hcb : lb ≤ cb) (hz : Blk w g (List.replicate (la + lb) 0 ++ rest)) (hcz : la + lb ≤ cz) (hs : la ≤ 10000) (hs2 : lb ≤ 10000) (hge : 2 * lb ≤ la) (h1 : 1 ≤ lb) :
    Calls Tryz.prog 176 #[.slice (some ⟨g, 0, none⟩) (la + lb) cz, .slice A la ca, .slice B lb cb] w fun e w' => e = .returned (.tuple #[]) ∧ Blk w' g (pad (la + lb) (a * b) ++ rest) ∧ KB g w w' := by
  have ha := len_lt a
  rw [hla] at ha
  have hm := mul_limbs a b
  rw [hla, hlb] at hm
  have hPp := fun p => hP (a / W64 ^ p % W64 ^ lb) b (by
    have : (toL (a / W64 ^ p % W64 ^ lb)).length ≤ lb := len_le (Nat.mod_lt _ (Nat.pow_pos W64_pos))
    omega)
  obtain ⟨N, hN⟩ : ∃ N, la + lb = N := ⟨_, rfl⟩
  rw [hN] at hz hcz hm ⊢
  have hz0 : List.replicate N 0 = pad N (a % W64 ^ 0 * b) := by rw [Nat.pow_zero, Nat.mod_one, Nat.zero_mul, pad_zero_rep]
  rw [hz0] at hz
  have hfit : ∀ p, a % W64 ^ p * b + W64 ^ p * (a / W64 ^ p % W64 ^ lb * b) = a % W64 ^ (p + lb) * b ∧ a % W64 ^ (p + lb) * b < W64 ^ N := fun p => by
    have e : a % W64 ^ (p + lb) = a % W64 ^ p + W64 ^ p * (a / W64 ^ p % W64 ^ lb) := by rw [Nat.pow_add, Nat.mod_mul]
    refine ⟨by rw [e, Nat.add_mul, Nat.mul_assoc], Nat.lt_of_le_of_lt (Nat.mul_le_mul_right _ (Nat.mod_le _ _)) hm⟩
  have hpc := fun p hp => piece_eq (lb := lb) (p := p) ha hp
  have hend : ∀ p, la ≤ p → a % W64 ^ p = a := fun p hp => Nat.mod_eq_of_lt (Nat.lt_of_lt_of_le ha (Nat.pow_le_pow_right W64_pos hp))
  have HA := Lib.hid hA
  have HB := Lib.hid hB
  have HZ := Lib.hid hz
  have HP := Lib.hid hPp
  have HFit := Lib.hid hfit
  have HPc := Lib.hid hpc
  have HEnd := Lib.hid hend
  have HM := Lib.hid (show la + lb = N ∧ la ≤ 10000 ∧ lb ≤ 10000 ∧ 1 ≤ lb ∧ N ≤ cz ∧ (toL a).length = la ∧ (toL b).length = lb from ⟨hN, hs, hs2, h1, hcz, hla, hlb⟩)
  have HC := Lib.hid (show la ≤ ca ∧ lb ≤ cb from ⟨hca, hcb⟩)
  have HG := Lib.hid hz.lt
  clear ha hm hPp hN hz hcz hs hs2 hge h1 hz0 hfit hpc hend hA hB hla hlb hP
  go_enter Tryz.func176, Tryz.ntmps176
  go_wp2_with fail
  go_loopw [6] (fun i wr => ∃ p : Nat, p ≤ la + lb ∧ i = .int .i64 (p : Int) ∧ Hid (Blk wr g (pad N (a % W64 ^ p * b) ++ rest)) ∧ Hid (KB g w wr)) (fun i _ => la - (intOf i).toNat)
  case atStart => exact ⟨0, by omega, rfl, HZ, Lib.hid (KB.refl g w)⟩
  case round =>
    obtain ⟨p, hp, rfl, HX, HK⟩ := hrel
    by_cases hpl : p < la
    · have hM := HM.out
      have hC := HC.out
      have hpi : (p : Int) < (la : Int) := by omega
      obtain ⟨ad, rfl, hga, _⟩ := HA.out (by omega)
      obtain ⟨en, hen⟩ : ∃ en, min (p + lb) la = en := ⟨_, rfl⟩
      have q1 : IntKind.i64.wrap ((p : Int) + (lb : Int)) = (p : Int) + (lb : Int) := by rw [IntKind.wrap_i64]; omega
      have q2 : min ((p : Int) + (lb : Int)) (la : Int) = (en : Int) := by omega
      have q3 : (p : Int) ≤ (en : Int) := by omega
      have q6 : (p : Int) < (en : Int) := by omega
      have q7 : ¬ en = p := by omega
      have q4 : (en : Int) ≤ (ca : Int) := by omega
      obtain ⟨d, hd⟩ : ∃ d, en - p = d := ⟨_, rfl⟩
      have hl0 : (((toL a).drop p).take d).length = d := by rw [List.length_take, List.length_drop]; omega
      have hpc := HPc.out p (by omega)
      rw [hen, hd] at hpc
      have hrd : Rd g wr (some (ad.add p)) (((toL a).drop p).take d) := ((HA.out.kb HK.out).drop p).take d
      have ht := fun W (h : RdU W (some (ad.add p)) (((toL a).drop p).take d)) => mtrim_walk (some (ad.add p)) d d (((toL a).drop p).take d) W hl0 h (Nat.le_refl _) (by omega)
      have hwd : Wd (((toL a).drop p).take d) := Wd_take (by rw [toL_drop]; exact Wd_toL _) d
      have htr : trimTo (((toL a).drop p).take d) (((toL a).drop p).take d).length = toL (a / W64 ^ p % W64 ^ lb) := by
        rw [trimTo_eq hwd _ (Nat.le_refl _), List.take_length, hpc]
      rw [htr] at ht
      have hrd2 : Rd g wr (some (ad.add p)) (toL (a / W64 ^ p % W64 ^ lb)) := by
        have h2 := trimTo_take (l := ((toL a).drop p).take d) _ (Nat.le_refl _)
        rw [htr] at h2
        rw [h2]; exact hrd.take _
      have hln : (toL (a / W64 ^ p % W64 ^ lb)).length ≤ 10000 := by
        have : (toL (a / W64 ^ p % W64 ^ lb)).length ≤ lb := len_le (Nat.mod_lt _ (Nat.pow_pos W64_pos))
        omega
      have HT := Lib.hid (ht _ hrd.rdU)
      have HR2 := Lib.hid hrd2
      have HLn := Lib.hid hln
      have HPp := Lib.hid (HP.out p)
      have hf := HFit.out p
      generalize a / W64 ^ p % W64 ^ lb = pc at *
      have HF := Lib.hid hf
      clear hM hC hl0 hpc hrd ht hwd htr hrd2 hln hf
      have q5 : en - p = d := hd
      clear hd hen
      go_wp2_with fail
      refine HT.out.mono ?_
      rintro e w1 ⟨rfl, rfl⟩
      clear q1 q2 q3 q4 q5 q6 q7
      go_wp2_with fail
      refine (HPp.out _ _ _ _ _ _ _ HR2.out.rdU (HB.out.kb HK.out).rdU rfl HM.out.2.2.2.2.2.2 (Nat.le_refl _) HC.out.2 HLn.out HM.out.2.2.1).mono ?_
      rintro e w2 ⟨v2, g2, rfl, ⟨r2, rfl, hB2⟩, hg2, hb2⟩
      have HX2 := Lib.hid (show Blk w2 g (pad N (a % W64 ^ p * b) ++ rest) from HX.out.below hb2)
      have HB2 := Lib.hid hB2
      have HK2 := Lib.hid (HK.out.next hb2)
      have HG2 := Lib.hid (show g < g2 from Nat.lt_of_lt_of_le HX.out.lt hg2)
      clear hB2 hg2 hb2
      go_wp2_with fail
      refine (addAt_walk g cz rest (some ⟨g2, 0, none⟩) _ _ (a % W64 ^ p * b) (pc * b) p N _ (HB2.out.front (by have := HG2.out; omega)) rfl (Nat.le_refl _) HX2.out (by rw [HF.out.1]; exact HF.out.2) (by have := HM.out; omega) HM.out.2.2.2.2.1 (by have := HM.out; omega)).mono ?_
      rintro e w3 ⟨rfl, hz3, hk3⟩
      rw [HF.out.1] at hz3
      have HZ3 := Lib.hid hz3
      have HK3 := Lib.hid (HK2.out.trans hk3)
      have q1 : IntKind.i64.wrap ((p : Int) + (lb : Int)) = ((p + lb : Nat) : Int) := by have := HM.out; rw [IntKind.wrap_i64]; omega
      clear hz3 hk3 HX2 HK2 HX HK
      go_wp2_with fail
      go_round
      case rel => exact ⟨p + lb, by omega, rfl, HZ3, HK3⟩
      case measure => have := HM.out; simp [intOf]; omega
    · have hX1 := HX.out
      rw [HEnd.out p (by omega)] at hX1
      have HX1 := Lib.hid hX1
      have hpi : ¬ (p : Int) < (la : Int) := by omega
      clear hX1
      go_wp2
      go_end0
      exact ⟨rfl, HX1.out, HK.out⟩

/-- Which of the three ways fill goes, the longer one ahead. -/
theorem fill_ways {a b : Nat} (hP : ∀ a' b', (toL a').length + (toL b').length < (toL a).length + (toL b).length → ProdOk a' b') (g cz : Nat) (rest : List Nat) (A B : Option Addr) (la lb ca cb : Nat) (w : World) (hA : Rd g w A (toL a)) (hB : Rd g w B (toL b))
    (hla : (toL a).length = la) (hlb : (toL b).length = lb) (hca : la ≤ ca) (hcb : lb ≤ cb) (hz : Blk w g (List.replicate (la + lb) 0 ++ rest)) (hcz : la + lb ≤ cz) (hs : la ≤ 10000) (hs2 : lb ≤ 10000) (hge : lb ≤ la) :
    ((lb : Int) < 40 ∧ Hid (Calls Tryz.prog 175 #[.slice (some ⟨g, 0, none⟩) (la + lb) cz, .slice A la ca, .slice B lb cb] w fun e w' => e = .returned (.tuple #[]) ∧ Blk w' g (pad (la + lb) (a * b) ++ rest) ∧ KB g w w')) ∨
    (¬ (lb : Int) < 40 ∧ 2 * (lb : Int) ≤ (la : Int) ∧ Hid (Calls Tryz.prog 176 #[.slice (some ⟨g, 0, none⟩) (la + lb) cz, .slice A la ca, .slice B lb cb] w fun e w' => e = .returned (.tuple #[]) ∧ Blk w' g (pad (la + lb) (a * b) ++ rest) ∧ KB g w w')) ∨
    (¬ (lb : Int) < 40 ∧ ¬ 2 * (lb : Int) ≤ (la : Int) ∧ Hid (Calls Tryz.prog 177 #[.slice (some ⟨g, 0, none⟩) (la + lb) cz, .slice A la ca, .slice B lb cb] w fun e w' => e = .returned (.tuple #[]) ∧ Blk w' g (pad (la + lb) (a * b) ++ rest) ∧ KB g w w')) := by
  by_cases h1 : (lb : Int) < 40
  · exact .inl ⟨h1, Lib.hid (rows_walk g cz rest A B la lb ca cb a b w hA hB hla hlb hca hcb hz hcz (by omega) (by omega))⟩
  · by_cases h2 : 2 * (lb : Int) ≤ (la : Int)
    · exact .inr (.inl ⟨h1, h2, Lib.hid (slabs_walk hP g cz rest A B la lb ca cb w hA hB hla hlb hca hcb hz hcz hs hs2 (by omega) (by omega))⟩)
    · exact .inr (.inr ⟨h1, h2, Lib.hid (thirds_walk hP g cz rest A B la lb ca cb w hA hB hla hlb hca hcb hz hcz hs hs2 hge (by omega))⟩)

set_option maxRecDepth 100000 in
set_option maxHeartbeats 1000000 in
theorem fill_of {a b : Nat} (hP : ∀ a' b', (toL a').length + (toL b').length < (toL a).length + (toL b).length → ProdOk a' b') : FillOk a b := by
  intro g cz rest A B la lb ca cb w hA hB hla hlb hca hcb hz hcz hs hs2
  have p1 : IntKind.i64.wrap (2 * (lb : Int)) = 2 * (lb : Int) := by rw [IntKind.wrap_i64]; omega
  have p2 : IntKind.i64.wrap (2 * (la : Int)) = 2 * (la : Int) := by rw [IntKind.wrap_i64]; omega
  by_cases hsw : la < lb
  · have hsi : (la : Int) < (lb : Int) := by omega
    have hw := fill_ways (a := b) (b := a) (fun a' b' h => hP a' b' (by omega)) g cz rest B A lb la cb ca w hB hA hlb hla hcb hca (by rw [Nat.add_comm]; exact hz) (by omega) hs2 hs (by omega)
    rw [Nat.add_comm lb la, Nat.mul_comm b a] at hw
    clear hP hA hB hla hlb hca hcb hz hcz hs hs2 hsw
    rcases hw with ⟨c1, HC⟩ | ⟨c1, c2, HC⟩ | ⟨c1, c2, HC⟩
    all_goals
      go_enter Tryz.func158, Tryz.ntmps158
      go_wp2_with fail
      refine HC.out.mono ?_
      rintro e w1 ⟨rfl, hB1, hk1⟩
      have HB1 := Lib.hid hB1
      have HK1 := Lib.hid hk1
      clear hB1 hk1
      go_wp2
      go_end0
      exact ⟨rfl, HB1.out, HK1.out⟩
  · have hsi : ¬ (la : Int) < (lb : Int) := by omega
    have hw := fill_ways hP g cz rest A B la lb ca cb w hA hB hla hlb hca hcb hz (by omega) hs hs2 (by omega)
    clear hP hA hB hla hlb hca hcb hz hcz hs hs2 hsw
    rcases hw with ⟨c1, HC⟩ | ⟨c1, c2, HC⟩ | ⟨c1, c2, HC⟩
    all_goals
      go_enter Tryz.func158, Tryz.ntmps158
      go_wp2_with fail
      refine HC.out.mono ?_
      rintro e w1 ⟨rfl, hB1, hk1⟩
      have HB1 := Lib.hid hB1
      have HK1 := Lib.hid hk1
      clear hB1 hk1
      go_wp2
      go_end0
      exact ⟨rfl, HB1.out, HK1.out⟩

/-- Every fill and every product is right. -/
theorem fill_all (n : Nat) : ∀ a b, (toL a).length + (toL b).length ≤ n → FillOk a b := by
  induction n with
  | zero => exact fun a b h => fill_of (fun a' b' h' => by omega)
  | succ n ih => exact fun a b h => fill_of (fun a' b' h' => prod_of_fill (ih a' b' (by omega)))
theorem fill_walk (a b : Nat) : FillOk a b := fill_all _ a b (Nat.le_refl _)
theorem product_walk (a b : Nat) : ProdOk a b := prod_of_fill (fill_walk a b)
end Go.Proofs.YtibjogbalmbeeaaGreatDoor

namespace Go.Proofs.YtibjogbalmbeeaaGreatDoor
open Go.RowKit

theorem OwnU.nat {w : World} {v : Value} {g p : Nat} (h : OwnU w v g p) : NatAt w v p := by
  obtain ⟨rest, rfl, hB⟩ := h
  exact ⟨_, _, rfl, Nat.le_refl _, (hB.front (g := g + 1) (by omega)).rdU⟩
theorem OwnU.below {w w' : World} {v : Value} {g p : Nat} (h : OwnU w v g p) (hb : Below w.heap.size w w') : OwnU w' v g p := by
  obtain ⟨rest, e, hB⟩ := h
  exact ⟨rest, e, hB.below hb⟩

set_option maxRecDepth 100000 in
theorem mtold_walk (A : Option Addr) (n c : Nat) (w : World) (hn : n ≤ 8192) :
    Calls Tryz.prog 126 #[.slice A n c] w fun e w' => e = .returned (.tuple #[.slice A n c, .int .i64 0]) ∧ w' = w := by
  have hni : ¬ (8192 : Int) < (n : Int) := by omega
  clear hn
  go_enter Tryz.func126, Tryz.ntmps126
  go_wp2
  go_ret2
  exact ⟨rfl, rfl⟩

set_option maxRecDepth 100000 in
theorem mul_walk (v1 v2 : Value) (a b : Nat) (w : World) (h1 : NatAt w v1 a) (h2 : NatAt w v2 b) (ha : (toL a).length ≤ 8192) (hb : (toL b).length ≤ 8192) (hab : (toL (a * b)).length ≤ 8192) :
    Calls Tryz.prog 76 #[v1, v2] w fun e w' => ∃ v g, e = .returned (.tuple #[v, .int .i64 0]) ∧ OwnU w' v g (a * b) ∧ w.heap.size ≤ g ∧ Below w.heap.size w w' := by
  have HFa := Lib.hid (form_walk v1 a w h1 ha)
  have HFb := Lib.hid (form_walk v2 b w h2 hb)
  obtain ⟨A, ca, rfl, hca, hrA⟩ := h1
  obtain ⟨B, cb, rfl, hcb, hrB⟩ := h2
  have HP := Lib.hid (product_walk a b A B _ _ ca cb w hrA hrB rfl rfl hca hcb (by omega) (by omega))
  have HT := Lib.hid (fun g W => mtold_walk (some ⟨g, 0, none⟩) (toL (a * b)).length (toL (a * b)).length W hab)
  clear hrA hrB hca hcb ha hb hab
  generalize (toL a).length = la at *
  generalize (toL b).length = lb at *
  go_enter Tryz.func76, Tryz.ntmps76
  go_wp2_with fail
  refine HFa.out.mono ?_
  rintro e w1 ⟨rfl, rfl⟩
  go_wp2_with fail
  refine HFb.out.mono ?_
  rintro e w1 ⟨rfl, rfl⟩
  go_wp2_with fail
  refine HP.out.mono ?_
  rintro e w1 ⟨v, g, rfl, ho, hg, hb1⟩
  have HO := Lib.hid ho
  have HG := Lib.hid hg
  have HB := Lib.hid hb1
  obtain ⟨rest, rfl, _⟩ := ho
  clear hg hb1
  go_wp2_with fail
  refine (HT.out _ _).mono ?_
  rintro e w2 ⟨rfl, rfl⟩
  go_wp2
  go_ret2
  exact ⟨_, g, rfl, HO.out, HG.out, HB.out⟩
end Go.Proofs.YtibjogbalmbeeaaGreatDoor

namespace Go.Proofs.YtibjogbalmbeeaaGreatDoor
open Go.RowKit

theorem KB.cells {g : Nat} : ∀ (vs : List Value) (o : Nat) (w : World), KB g w (w.setCells g o vs)
  | [], _, w => KB.refl g w
  | v :: r, o, w => ((KB.refl g w).set o v).trans (KB.cells r (o + 1) (w.setCell ⟨g, o, none⟩ v))
theorem Blk.zeros {g : Nat} : ∀ (n o : Nat) (w : World) (l : List Nat), Blk w g l → o + n ≤ l.length → Blk (w.setCells g o (List.replicate n (.int .u64 0))) g (l.take o ++ (List.replicate n 0 ++ l.drop (o + n)))
  | 0, o, w, l, h, hn => by
    have e : l.take o ++ (List.replicate 0 0 ++ l.drop (o + 0)) = l := by simp
    rw [e]; exact h
  | n + 1, o, w, l, h, hn => by
    have h1 := Blk.zeros n (o + 1) (w.setCell ⟨g, o, none⟩ (.int .u64 ((0 : Nat) : Int))) (l.set o 0) (h.set o 0) (by rw [List.length_set]; omega)
    have hs : l.set o 0 = l.take o ++ 0 :: l.drop (o + 1) := List.set_eq_take_append_cons_drop.trans (if_pos (by omega))
    have hl : (l.take o ++ [0]).length = o + 1 := by simp; omega
    have e1 : (l.set o 0).take (o + 1) = l.take o ++ [0] := by
      rw [hs, show l.take o ++ 0 :: l.drop (o + 1) = (l.take o ++ [0]) ++ l.drop (o + 1) by simp, ← hl, List.take_left]
    have e2 : (l.set o 0).drop (o + 1 + n) = l.drop (o + (n + 1)) := by
      rw [hs, show l.take o ++ 0 :: l.drop (o + 1) = (l.take o ++ [0]) ++ l.drop (o + 1) by simp, ← List.drop_drop, ← hl, List.drop_left, hl, List.drop_drop]
      congr 1; omega
    rw [e1, e2] at h1
    rw [List.replicate_succ, List.replicate_succ]
    have e3 : l.take o ++ (0 :: List.replicate n 0 ++ l.drop (o + (n + 1))) = l.take o ++ [0] ++ (List.replicate n 0 ++ l.drop (o + (n + 1))) := by simp
    rw [e3]
    exact h1
theorem zero_u64 (w : World) : (zeroValue 23).run Tryz.prog w = .ok (.int .u64 0) w := by kernel_rfl

set_option maxRecDepth 100000 in
set_option maxHeartbeats 1000000 in
theorem next_walk (g n0 room : Nat) (A B : Option Addr) (la lb ca cb a b : Nat) (l : List Nat) (w : World) (hA : Rd g w A (toL a)) (hB : Rd g w B (toL b)) (hla : (toL a).length = la) (hlb : (toL b).length = lb) (hca : la ≤ ca) (hcb : lb ≤ cb)
    (hz : Blk w g l) (hl : l.length = room) (_hn : n0 ≤ room) (hr : la + lb ≤ room) (h0 : 0 < la) (hs : la ≤ 10000) (hs2 : lb ≤ 10000) :
    Calls Tryz.prog 178 #[.slice (some ⟨g, 0, none⟩) n0 room, .slice A la ca, .slice B lb cb] w fun e w' => ∃ r, e = .returned (.slice (some ⟨g, 0, none⟩) (toL (a * b)).length room) ∧ Blk w' g (toL (a * b) ++ r) ∧ (toL (a * b) ++ r).length = room ∧ KB g w w' := by
  have hfit := mul_limbs a b
  rw [hla, hlb] at hfit
  obtain ⟨m, hm⟩ : ∃ m, la + lb = m := ⟨_, rfl⟩
  have hcl : ∀ ty, (Builtin.clear_ #[67] ty #[.slice (some ⟨g, 0, none⟩) m room]).run Tryz.prog w = .ok (.tuple #[]) (w.setCells g 0 (List.replicate m (.int .u64 0))) :=
    fun ty => Lib.run_clear_slice w 67 23 ty (.int .u64 0) Tryz.underlying67 zero_u64 rfl rfl g 0 m room (by omega) (fun j hj => by rw [Nat.zero_add, hz.cell (by omega)]; rfl) (fun j hj => by rw [Nat.zero_add]; exact hz.frozen j)
  have hz1 := Blk.zeros m 0 w l hz (by omega)
  simp only [List.take_zero, List.nil_append, Nat.zero_add] at hz1
  have hk1 := KB.cells (g := g) (List.replicate m (.int .u64 0)) 0 w
  have hF := fun W (hA : Rd g W A (toL a)) (hB : Rd g W B (toL b)) (hz : Blk W g (List.replicate m 0 ++ l.drop m)) => by
    have := fill_walk a b g room (l.drop m) A B la lb ca cb W hA hB hla hlb hca hcb (by rw [hm]; exact hz) (by omega) hs hs2
    rw [hm] at this
    exact this
  rw [hm] at hfit
  have hT : ∀ W, Blk W g (pad m (a * b) ++ l.drop m) → Calls Tryz.prog 159 #[.slice (some ⟨g, 0, none⟩) m room] W fun e w' => e = .returned (.slice (some ⟨g, 0, none⟩) (toL (a * b)).length (toL (a * b)).length) ∧ w' = W := fun W hB2 => by
    have hrd := (hB2.rd (g := g + 1) (by omega)).take m
    rw [List.take_append_of_le_length (by rw [pad_length]; exact Nat.le_refl _), List.take_of_length_le (by rw [pad_length]; exact Nat.le_refl _)] at hrd
    have ht := mtrim_walk (some ⟨g, 0, none⟩) m room (pad m (a * b)) W (pad_length _ _) hrd.rdU (by omega) (by omega)
    rw [trimTo_eq (Wd_pad _ _) _ (Nat.le_refl _), List.take_length, vl_pad_of hfit] at ht
    exact ht.mono (fun e w' h => ⟨h.1, h.2.symm⟩)
  have hle := len_le hfit
  have p1 : IntKind.i64.wrap ((la : Int) + (lb : Int)) = (m : Int) := by rw [IntKind.wrap_i64]; omega
  have q1 : (m : Int) ≤ (room : Int) := by omega
  have q2 : ((toL (a * b)).length : Int) ≤ (room : Int) := by omega
  have HA := Lib.hid (hA.kb hk1)
  have HB := Lib.hid (hB.kb hk1)
  have HZ := Lib.hid hz1
  have HF := Lib.hid hF
  have HT := Lib.hid hT
  have HK := Lib.hid hk1
  have HE := Lib.hid (show pad m (a * b) ++ l.drop m = toL (a * b) ++ (List.replicate (m - (toL (a * b)).length) 0 ++ l.drop m) ∧ (toL (a * b) ++ (List.replicate (m - (toL (a * b)).length) 0 ++ l.drop m)).length = room from
    ⟨pad_front hle _, by simp; omega⟩)
  clear hA hB hz1 hF hT hk1 hz hl _hn hr h0 hs hs2 hfit hle hca hcb hm hla hlb
  generalize (toL (a * b)).length = pl at *
  go_enter Tryz.func178, Tryz.ntmps178
  go_wp2_with (simp only [hcl])
  refine (HF.out _ HA.out HB.out HZ.out).mono ?_
  rintro e w1 ⟨rfl, hB1, hk1⟩
  have HB1 := Lib.hid hB1
  have HK1 := Lib.hid (HK.out.trans hk1)
  clear hB1 hk1 hcl
  go_wp2_with fail
  refine (HT.out _ HB1.out).mono ?_
  rintro e w2 ⟨rfl, rfl⟩
  go_wp2
  go_ret
  exact ⟨_, rfl, by rw [← HE.out.1]; exact HB1.out, HE.out.2, HK1.out⟩
end Go.Proofs.YtibjogbalmbeeaaGreatDoor
