/- Walk of gnomonref11: DocParse. · Walk of gnomonref11: DocParse, at any numbers of a format. · Walk of decimal: Parse at no format; both at any format. · Walks of the law Parses: plays at kind 1, parses. · Walk of gnomonlaw11: all, over a script; of the law Parses. -/
import Derived.Test.YtmfjimmodaofdaaGreatDoorVs
import Derived.Test.YtmfjimmodaofdaaGreatDoorVu
import Derived.Test.YtmfjimmodaofdaaGreatDoorB2
import Derived.Test.YtmfjimmodaofdaaGreatDoorDw
namespace Go.Proofs.YtmfjimmodaofdaaGreatDoor
open Go.RowKit

theorem dWP_len (s : ByteArray) (i : Nat) (hi : i ≤ s.size) : ((dW s i).data.toList ++ (dP s i).data.toList).length ≤ s.size := by
  rw [List.length_append, Array.length_toList, Array.length_toList]
  show (dW s i).size + (dP s i).size ≤ s.size
  have h1 : dcE s i ≤ s.size := runTo_le _ _ _ _ hi
  have h2 : (dW s i).size = dcE s i - i := size_ext _ _ _ h1
  unfold dP
  by_cases h : ptQ s i = true
  · rw [if_pos h]
    have h3 : dcE s (dcE s i + 1) ≤ s.size := runTo_le _ _ _ _ ((ptQ_iff s i).1 h).1
    have h4 : dcE s i + 1 ≤ dcE s (dcE s i + 1) := runTo_ge _ _ _ _
    rw [size_ext _ _ _ h3]
    omega
  · rw [if_neg h]
    have h4 : (⟨#[]⟩ : ByteArray).size = 0 := rfl
    omega
theorem blen_4000 {d n : Nat} (h : d < 10 ^ n) (hn : n ≤ 4000) : blen d ≤ 13400 := by
  obtain ⟨m, hm⟩ : ∃ m, m = 1334 := ⟨_, rfl⟩
  have h1 : blen d ≤ 10 * m := by
    refine blen_le.2 (Nat.lt_of_lt_of_le h (Nat.le_trans (Nat.pow_le_pow_right (by omega) (show n ≤ 3 * m by omega)) ?_))
    rw [Nat.pow_mul, Nat.pow_mul]
    exact Nat.pow_le_pow_left (show 10 ^ 3 ≤ 2 ^ 10 by decide) _
  omega
/-- What is read is no longer than the text. -/
theorem rd_bound {s : ByteArray} (hs : s.size ≤ 4000) {k : Nat} {ng : Bool} {d : Nat} {x : Int} (h : rdAt s = some (k, ng, d, x)) : blen d ≤ 13400 ∧ -1100000000 ≤ x ∧ x ≤ 1100000000 := by
  have hi0 : sgI s 0 ≤ s.size := sgI_le s 0 (Nat.zero_le _)
  have hb : blen (dcV ((dW s (sgI s 0)).data.toList ++ (dP s (sgI s 0)).data.toList)) ≤ 13400 := by
    have h1 : ((dW s (sgI s 0)).data.toList ++ (dP s (sgI s 0)).data.toList).all dgQ = true := by rw [List.all_append, dW_all s _ hi0, dP_all s _]; rfl
    exact blen_4000 (dcV_lt h1) (Nat.le_trans (dWP_len s _ hi0) hs)
  have hp := (dP_le s (sgI s 0) hi0).2.2.2
  have hx := exR_bound s (dK s (sgI s 0) + 1)
  unfold rdAt at h
  generalize dcV ((dW s (sgI s 0)).data.toList ++ (dP s (sgI s 0)).data.toList) = dd at h hb
  generalize (dP s (sgI s 0)).size = pl at h hp
  generalize exR s (dK s (sgI s 0) + 1) = xr at h hx
  have h00 : blen 0 ≤ 13400 := by rw [show blen 0 = 0 from rfl]; omega
  by_cases c1 : s = nanS
  · rw [if_pos c1] at h
    simp only [Option.some.injEq, Prod.mk.injEq] at h
    obtain ⟨_, _, rfl, rfl⟩ := h
    exact ⟨h00, by omega, by omega⟩
  rw [if_neg c1] at h
  by_cases c2 : s.extract (sgI s 0) s.size = infS
  · rw [if_pos c2] at h
    simp only [Option.some.injEq, Prod.mk.injEq] at h
    obtain ⟨_, _, rfl, rfl⟩ := h
    exact ⟨h00, by omega, by omega⟩
  rw [if_neg c2] at h
  by_cases c3 : mS s (sgI s 0) = false
  · rw [if_pos c3] at h; exact absurd h (by simp)
  rw [if_neg c3] at h
  by_cases c4 : dK s (sgI s 0) < s.size
  · rw [if_pos c4] at h
    by_cases c5 : isE s (dK s (sgI s 0)) = true
    · rw [if_pos c5] at h
      by_cases c6 : exO s (dK s (sgI s 0) + 1) = true
      · rw [if_pos c6] at h
        simp only [Option.some.injEq, Prod.mk.injEq] at h
        obtain ⟨_, _, rfl, rfl⟩ := h
        exact ⟨hb, by omega, by omega⟩
      · rw [if_neg c6] at h; exact absurd h (by simp)
    · rw [if_neg c5] at h; exact absurd h (by simp)
  · rw [if_neg c4] at h
    simp only [Option.some.injEq, Prod.mk.injEq] at h
    obtain ⟨_, _, rfl, rfl⟩ := h
    exact ⟨hb, by omega, by omega⟩

/-- What DocParse keeps: the format's box, the text's. -/
structure DpS (w W : World) (g h : Nat) (sg P L G I Q : Int) (ng b1 b2 : Bool) (v : Value) (d : Nat) (x : Int) : Prop where
  x0 : W.cell? ⟨g, 0, none⟩ = some (.int .u64 sg)
  x1 : W.cell? ⟨g, 1, none⟩ = some (.int .i64 P)
  x2 : W.cell? ⟨g, 2, none⟩ = some (.int .i64 L)
  x3 : W.cell? ⟨g, 3, none⟩ = some (.int .i64 G)
  x4 : W.cell? ⟨g, 4, none⟩ = some (.int .u64 I)
  x5 : W.cell? ⟨g, 5, none⟩ = some (.int .u64 Q)
  t0 : W.cell? ⟨h, 0, none⟩ = some (.bool ng)
  t1 : W.cell? ⟨h, 1, none⟩ = some (.bool b1)
  t2 : W.cell? ⟨h, 2, none⟩ = some (.bool b2)
  t3 : W.cell? ⟨h, 3, none⟩ = some v
  t4 : W.cell? ⟨h, 4, none⟩ = some (.int .i64 x)
  dd : DgAt W v d
  bl : Below w.heap.size w W
theorem DpS.below {w W W2 : World} {g h : Nat} {sg P L G I Q : Int} {ng b1 b2 : Bool} {v : Value} {d : Nat} {x : Int} (k : DpS w W g h sg P L G I Q ng b1 b2 v d x) (hb : Below W.heap.size W W2) : DpS w W2 g h sg P L G I Q ng b1 b2 v d x :=
  ⟨cell_kept hb k.x0, cell_kept hb k.x1, cell_kept hb k.x2, cell_kept hb k.x3, cell_kept hb k.x4, cell_kept hb k.x5, cell_kept hb k.t0, cell_kept hb k.t1, cell_kept hb k.t2, cell_kept hb k.t3, cell_kept hb k.t4, k.dd.below hb, below_chain k.bl hb⟩
end Go.Proofs.YtmfjimmodaofdaaGreatDoor

namespace Go.Proofs.YtmfjimmodaofdaaGreatDoor
open Go.RowKit

set_option maxRecDepth 100000 in
set_option maxHeartbeats 4000000 in
theorem rdocparse_gen (f : Fm) (FF sg P L G I Q : Int) (hI : (f.inf : Int) = I) (hQ : (f.quiet : Int) = Q) (hsg : ((2 ^ f.S : Nat) : Int) = sg) (hb64 : f.inf + 2 ^ f.S < 18446744073709551616)
    (hOf : ∀ W, Calls Tryz.prog 79 #[.int .i64 FF] W fun e w' => e = .returned (.tuple #[.agg #[.int .u64 sg, .int .i64 P, .int .i64 L, .int .i64 G, .int .u64 I, .int .u64 Q], .bool true]) ∧ Below W.heap.size W w')
    (hSz : ∀ v d e W, DgAt W v d → blen d ≤ 13500 → -1100000000 ≤ e → e ≤ 1100000000 → Calls Tryz.prog 148 #[.agg #[.int .u64 sg, .int .i64 P, .int .i64 L, .int .i64 G, .int .u64 I, .int .u64 Q], v, .int .i64 e] W fun r w' => ∃ p : Nat, r = .returned (.int .u64 (p : Int)) ∧ IsPat f (tn d e) (td e) p ∧ p ≤ f.inf ∧ Below W.heap.size W w')
    (s : ByteArray) (w : World) :
    Calls Tryz.prog 113 #[.int .i64 FF, .string s] w fun r w' => ∃ (v : Nat) (k : Int), r = .returned (.tuple #[.int .u64 (v : Int), .int .i64 k]) ∧ RefOk f s v k ∧ Below w.heap.size w w' := by
  have HOf := Lib.hid (hOf w)
  by_cases hl : 4000 < s.size
  · have hli : (4000 : Int) < (s.size : Int) := by omega
    have HO := Lib.hid (show RefOk f s 0 7 by unfold RefOk; rw [if_pos hl]; exact ⟨rfl, rfl⟩)
    clear hl hI hQ hsg hb64 hOf hSz
    go_enter Tryz.func113, Tryz.ntmps113
    go_wp2_with fail
    refine HOf.out.mono ?_
    rintro r w1 ⟨rfl, hb1⟩
    have HB1 := Lib.hid (below_chain hb1 (below_alloc' w1 (.cells #[.int .u64 sg, .int .i64 P, .int .i64 L, .int .i64 G, .int .u64 I, .int .u64 Q] 122)))
    clear hb1
    go_wp2
    go_ret2
    exact ⟨0, 7, rfl, HO.out, HB1.out⟩
  have hli : ¬ (4000 : Int) < (s.size : Int) := by omega
  have hrd := fun W => read_walk s (by omega) W
  cases hd : rdAt s with
  | none =>
    have HRd := Lib.hid (fun W => (hrd W).mono (fun e w' (h : RdOk s e w' ∧ Below W.heap.size W w') => show e = .returned (.tuple #[.agg #[.bool false, .bool false, .bool false, .slice none 0 0, .int .i64 0], .bool false]) ∧ Below W.heap.size W w' from ⟨by have := h.1; unfold RdOk at this; rwa [hd] at this, h.2⟩))
    have HO := Lib.hid (show RefOk f s 0 8 by unfold RefOk; rw [if_neg hl, hd]; exact ⟨rfl, rfl⟩)
    clear hl hI hQ hsg hb64 hOf hSz hrd hd
    go_enter Tryz.func113, Tryz.ntmps113
    go_wp2_with fail
    refine HOf.out.mono ?_
    rintro r w1 ⟨rfl, hb1⟩
    have HB1 := Lib.hid (below_chain hb1 (below_alloc' w1 (.cells #[.int .u64 sg, .int .i64 P, .int .i64 L, .int .i64 G, .int .u64 I, .int .u64 Q] 122)))
    clear hb1
    go_wp2_with fail
    refine (HRd.out _).mono ?_
    rintro r w2 ⟨rfl, hb2⟩
    have HB2 := Lib.hid (below_chain (below_chain HB1.out hb2) (below_alloc' w2 (.cells #[.bool false, .bool false, .bool false, .slice none 0 0, .int .i64 0] 186)))
    clear hb2
    go_wp2
    go_ret2
    exact ⟨0, 8, rfl, HO.out, HB2.out⟩
  | some t =>
    obtain ⟨k0, ng, d, x⟩ := t
    have hbd := rd_bound (by omega) hd
    have hk : k0 = 0 ∨ k0 = 1 ∨ k0 = 2 := Classical.byContradiction fun h => rd_kind (fun e => h (.inl e)) (fun e => h (.inr (.inl e))) (fun e => h (.inr (.inr e))) hd
    obtain ⟨b1, hq1⟩ : ∃ b, (k0 == 1) = b := ⟨_, rfl⟩
    obtain ⟨b2, hq2⟩ : ∃ b, (k0 == 0) = b := ⟨_, rfl⟩
    have hk : (k0 = 0 ∧ b1 = false ∧ b2 = true) ∨ (k0 = 1 ∧ b1 = true ∧ b2 = false) ∨ (k0 = 2 ∧ b1 = false ∧ b2 = false) := by
      rw [← hq1, ← hq2]
      rcases hk with h | h | h <;> subst h
      · exact .inl ⟨rfl, rfl, rfl⟩
      · exact .inr (.inl ⟨rfl, rfl, rfl⟩)
      · exact .inr (.inr ⟨rfl, rfl, rfl⟩)
    have HRd := Lib.hid (fun W => (hrd W).mono (fun e w' (h : RdOk s e w' ∧ Below W.heap.size W w') => show ∃ v, e = .returned (.tuple #[.agg #[.bool ng, .bool b1, .bool b2, v, .int .i64 x], .bool true]) ∧ DgAt w' v d ∧ Below W.heap.size W w' from by
      obtain ⟨h1, h2⟩ := h
      unfold RdOk at h1
      rw [hd] at h1
      obtain ⟨v, e1, e2⟩ := h1
      rw [hq1, hq2] at e1
      exact ⟨v, e1, e2, h2⟩))
    have HO := Lib.hid (fun v (h : TokP f k0 ng d x v) => show RefOk f s v 0 by unfold RefOk; rw [if_neg hl, hd]; exact ⟨h, rfl⟩)
    have HSz := Lib.hid (fun v W (h : DgAt W v d) => hSz v d x W h (by omega) hbd.2.1 hbd.2.2)
    have HI := Lib.hid (And.intro hI hQ)
    have HSg := Lib.hid (And.intro hsg hb64)
    clear hl hI hQ hsg hb64 hOf hSz hrd hd hbd hq1 hq2
    go_enter Tryz.func113, Tryz.ntmps113
    go_wp2_with fail
    refine HOf.out.mono ?_
    rintro r w1 ⟨rfl, hb1⟩
    have HB1 := Lib.hid (below_chain hb1 (below_alloc' w1 (.cells #[.int .u64 sg, .int .i64 P, .int .i64 L, .int .i64 G, .int .u64 I, .int .u64 Q] 122)))
    clear hb1 HOf
    go_wp2_with fail
    refine (HRd.out _).mono ?_
    rintro r w2 ⟨v, rfl, hv, hb2⟩
    obtain ⟨A, c, rfl, _, _, _⟩ := id hv
    obtain ⟨n, hn⟩ : ∃ n, (toD d).length = n := ⟨_, rfl⟩
    rw [hn] at hv ⊢
    have hb3 := below_alloc' w2 (.cells #[.bool ng, .bool b1, .bool b2, .slice A n c, .int .i64 x] 186)
    have hK : DpS w (w2.alloc (.cells #[.bool ng, .bool b1, .bool b2, .slice A n c, .int .i64 x] 186)) w1.heap.size w2.heap.size sg P L G I Q ng b1 b2 (.slice A n c) d x :=
      ⟨cell_kept hb3 (cell_kept hb2 (by simp)), cell_kept hb3 (cell_kept hb2 (by simp)), cell_kept hb3 (cell_kept hb2 (by simp)), cell_kept hb3 (cell_kept hb2 (by simp)), cell_kept hb3 (cell_kept hb2 (by simp)), cell_kept hb3 (cell_kept hb2 (by simp)), by simp, by simp, by simp, by simp, by simp, hv.below hb3, below_chain (below_chain HB1.out hb2) hb3⟩
    have HK := Lib.hid hK
    clear hb2 hb3 hn hv HRd HB1
    obtain ⟨x0, x1, x2, x3, x4, x5, t0, t1, t2, t3, t4, _, _⟩ := hK
    rcases hk with ⟨rfl, rfl, rfl⟩ | ⟨rfl, rfl, rfl⟩ | ⟨rfl, rfl, rfl⟩
    · have HV := Lib.hid (HO.out f.quiet (by unfold TokP; rw [if_pos rfl]))
      clear HO HSz HSg
      go_wp2
      go_ret2
      exact ⟨f.quiet, 0, by rw [HI.out.2]; rfl, HV.out, HK.out.bl⟩
    · have HV := Lib.hid (HO.out (sgn f ng f.inf) (by unfold TokP; rw [if_neg (by decide), if_pos rfl]))
      clear HO HSz
      cases ng
      · have HE := Lib.hid (show ((sgn f false f.inf : Nat) : Int) = I from HI.out.1)
        clear HSg
        go_wp2
        go_ret2
        exact ⟨sgn f false f.inf, 0, by rw [HE.out]; rfl, HV.out, HK.out.bl⟩
      · have HE := Lib.hid (show ((sgn f true f.inf : Nat) : Int) = I + sg by have h1 := HI.out.1; have h2 := HSg.out.1; rw [← h1, ← h2, show sgn f true f.inf = 2 ^ f.S + f.inf from rfl, Int.natCast_add]; exact Int.add_comm _ _)
        have p1 : IntKind.u64.wrap (I + sg) = I + sg := by
          have h1 := HI.out.1
          obtain ⟨h2, h3⟩ := HSg.out
          have h4 : 0 ≤ sg := by rw [← h2]; exact Int.natCast_nonneg _
          rw [IntKind.wrap_u64]; omega
        clear HSg
        go_wp2
        go_ret2
        exact ⟨sgn f true f.inf, 0, by rw [HE.out]; rfl, HV.out, HK.out.bl⟩
    · go_wp2_with fail
      refine (HSz.out _ _ HK.out.dd).mono ?_
      rintro r w3 ⟨p, rfl, hp, hpl, hb3⟩
      have HK3 := Lib.hid (HK.out.below hb3)
      have HV := Lib.hid (HO.out (sgn f ng p) (by unfold TokP; rw [if_neg (by decide), if_neg (by decide)]; exact ⟨p, hp, hpl, rfl⟩))
      have HPl := Lib.hid hpl
      clear hp hpl hb3 HSz HO x0 x1 x2 x3 x4 x5 t0 t1 t2 t3 t4
      have x0 := HK3.out.x0
      have t0 := HK3.out.t0
      cases ng
      · clear HSg
        go_wp2
        go_ret2
        exact ⟨sgn f false p, 0, rfl, HV.out, HK3.out.bl⟩
      · have HE := Lib.hid (show ((sgn f true p : Nat) : Int) = (p : Int) + sg by have h2 := HSg.out.1; rw [← h2, show sgn f true p = 2 ^ f.S + p from rfl, Int.natCast_add]; exact Int.add_comm _ _)
        have p1 : IntKind.u64.wrap ((p : Int) + sg) = (p : Int) + sg := by
          have h1 := HPl.out
          obtain ⟨h2, h3⟩ := HSg.out
          have h4 : 0 ≤ sg := by rw [← h2]; exact Int.natCast_nonneg _
          rw [IntKind.wrap_u64]; omega
        clear HSg
        go_wp2
        go_ret2
        exact ⟨sgn f true p, 0, by rw [HE.out]; rfl, HV.out, HK3.out.bl⟩

theorem rdocparse_any (f : Fm) (hf : f.ok) (s : ByteArray) (w : World) :
    Calls Tryz.prog 113 #[.int .i64 (fmt f), .string s] w fun r w' => ∃ (v : Nat) (k : Int), r = .returned (.tuple #[.int .u64 (v : Int), .int .i64 k]) ∧ RefOk f s v k ∧ Below w.heap.size w w' := by
  rcases hf with h | h <;> subst h
  · rw [fmt_S]
    exact rdocparse_gen fmS 32 _ _ _ _ _ _ (by decide) (by decide) (by decide) (by decide) (fun W => rof07_S W) (fun v d e W a b c g => rsz_S v d e W a b c g) s w
  · rw [fmt_D]
    exact rdocparse_gen fmD 64 _ _ _ _ _ _ (by decide) (by decide) (by decide) (by decide) (fun W => rof07_D W) (fun v d e W a b c g => rsz_D v d e W a b c g) s w
set_option maxRecDepth 100000 in
theorem rdocparse_no (f : Int) (h1 : f ≠ 32) (h2 : f ≠ 64) (s : ByteArray) (w : World) :
    Calls Tryz.prog 113 #[.int .i64 f, .string s] w fun r w' => r = .returned (.tuple #[.int .u64 0, .int .i64 1]) ∧ Below w.heap.size w w' := by
  have HOf := Lib.hid (rof07_no f h1 h2 w)
  clear h1 h2
  go_enter Tryz.func113, Tryz.ntmps113
  go_wp2_with fail
  refine HOf.out.mono ?_
  rintro r w1 ⟨rfl, hb1⟩
  have HB1 := Lib.hid (below_chain hb1 (below_alloc' w1 (.cells #[.int .u64 0, .int .i64 0, .int .i64 0, .int .i64 0, .int .u64 0, .int .u64 0] 122)))
  clear hb1
  go_wp2
  go_ret2
  exact ⟨rfl, HB1.out⟩
end Go.Proofs.YtmfjimmodaofdaaGreatDoor

namespace Go.Proofs.YtmfjimmodaofdaaGreatDoor
open Go.RowKit

set_option maxRecDepth 100000 in
set_option maxHeartbeats 2000000 in
theorem dparse_no (f : Int) (h1 : f ≠ 32) (h2 : f ≠ 64) (s : ByteArray) (w : World) :
    Calls Tryz.prog 16 #[.int .i64 f, .string s] w fun e w' => e = .returned (.tuple #[.int .u64 0, .int .i64 1]) ∧ Below w.heap.size w w' := by
  have hmf : ∀ (fn : Fn) (first cap : Array Value) (w : World), (Instr.makeFunc fn first cap).run Tryz.prog w = .ok (.func fn first cap) w := fun _ _ _ _ => rfl
  have HC0 := Lib.hid (PC.start w)
  have HQ := Lib.hid (fun W => quiet_no f h1 h2 W)
  clear h1 h2
  go_enter_defers Tryz.func16, Tryz.ntmps16
  go_wp2_with fail
  refine (HQ.out _).mono ?_
  rintro e w1 ⟨rfl, hb1⟩
  have HC1 := Lib.hid (HC0.out.below hb1)
  have HC2 := Lib.hid (HC1.out.setE (.int .i64 1))
  obtain ⟨k0, k1, k2, k3, _, _⟩ := HC1.out
  obtain ⟨m0, m1, m2, m3, _, _⟩ := HC2.out
  have HC3 := ((HC2.out.setA (.int .u64 0)).setE (.int .i64 1))
  have HC4 := Lib.hid HC3
  clear hb1 HC3
  go_wp2_with fail
  have d1 := fun q => (HC2.out.dn q).ca
  have d2 := fun q => (HC2.out.dn q).ce
  have d3 := fun q => (HC2.out.dn q).fa
  have d4 := fun q => (HC2.out.dn q).fe
  go_region_with (fail)
  all_goals
    go_wp2
    have H5 := HC4.out.dn 1
    have H6 : PC w ((((w1.setCell ⟨w.heap.size + 1, 0, none⟩ (.int .i64 1)).setCell ⟨w.heap.size, 0, none⟩ (.int .u64 0)).setCell ⟨w.heap.size + 1, 0, none⟩ (.int .i64 1)).drew) (.int .u64 0) (.int .i64 1) := H5
    exact ⟨.tuple #[.int .u64 0, .int .i64 1], by simp [results, Tryz.results16, go_sem, H6.ca, H6.ce], rfl, H6.bl⟩
end Go.Proofs.YtmfjimmodaofdaaGreatDoor

namespace Go.Proofs.YtmfjimmodaofdaaGreatDoor
open Go.RowKit

/-- Parse and DocParse, at any format: one answer. -/
theorem both_parse (f : Int) (s : ByteArray) (hs : s.size ≤ 9223372036854775807) (w1 : World) (ht1 : Tab64 w1) :
    Calls Tryz.prog 16 #[.int .i64 f, .string s] w1 fun e w' => ∃ (v : Nat) (k : Int), e = .returned (.tuple #[.int .u64 (v : Int), .int .i64 k]) ∧ (∀ W, Calls Tryz.prog 113 #[.int .i64 f, .string s] W fun e w' => e = .returned (.tuple #[.int .u64 (v : Int), .int .i64 k]) ∧ Below W.heap.size W w') ∧ Below w1.heap.size w1 w' := by
  by_cases h32 : f = 32
  · subst h32
    refine (dparse_walk fmS (.inl rfl) s w1 hs ht1).mono ?_
    rintro e w' ⟨v, k, rfl, hp, hb⟩
    refine ⟨v, k, rfl, fun W => ?_, hb⟩
    refine (rdocparse_any fmS (.inl rfl) s W).mono ?_
    rintro e w'' ⟨v', k', rfl, hr, hb'⟩
    obtain ⟨rfl, rfl⟩ := ref_par (.inl rfl) hp hr
    exact ⟨rfl, hb'⟩
  by_cases h64 : f = 64
  · subst h64
    refine (dparse_walk fmD (.inr rfl) s w1 hs ht1).mono ?_
    rintro e w' ⟨v, k, rfl, hp, hb⟩
    refine ⟨v, k, rfl, fun W => ?_, hb⟩
    refine (rdocparse_any fmD (.inr rfl) s W).mono ?_
    rintro e w'' ⟨v', k', rfl, hr, hb'⟩
    obtain ⟨rfl, rfl⟩ := ref_par (.inr rfl) hp hr
    exact ⟨rfl, hb'⟩
  refine (dparse_no f h32 h64 s w1).mono ?_
  rintro e w' ⟨rfl, hb⟩
  exact ⟨0, 1, rfl, fun W => rdocparse_no f h32 h64 s W, hb⟩

set_option maxRecDepth 100000 in
set_option maxHeartbeats 1000000 in
theorem plays_one (f : Int) (s : ByteArray) (hs : s.size ≤ 9223372036854775807) (b n : Int) (w : World) (ht : Tab64 w) :
    Calls Tryz.prog 62 #[.agg #[.int .i64 1, .int .i64 f, .string s, .int .u64 b, .int .i64 n]] w fun e w' => e = .returned (.bool true) ∧ Below w.heap.size w w' := by
  have HP := Lib.hid (fun W h => both_parse f s hs W h)
  have HT := Lib.hid ht
  have hb0 := below_alloc' w (.cells #[.int .i64 1, .int .i64 f, .string s, .int .u64 b, .int .i64 n] 105)
  have HW0 := Lib.hid hb0
  clear ht hb0 hs
  go_enter Tryz.func62, Tryz.ntmps62
  go_wp2_with fail
  refine (HP.out _ (HT.out.below HW0.out)).mono ?_
  rintro e w1 ⟨v, k, rfl, hR, hb1⟩
  have HR := Lib.hid hR
  have HW1 := Lib.hid (below_chain HW0.out hb1)
  have y0 : w1.cell? ⟨w.heap.size, 0, none⟩ = some (.int .i64 1) := cell_kept hb1 (by simp)
  have y1 : w1.cell? ⟨w.heap.size, 1, none⟩ = some (.int .i64 f) := cell_kept hb1 (by simp)
  have y2 : w1.cell? ⟨w.heap.size, 2, none⟩ = some (.string s) := cell_kept hb1 (by simp)
  clear hb1 hR
  go_wp2_with fail
  refine (HR.out _).mono ?_
  rintro e w2 ⟨rfl, hb2⟩
  have HW2 := Lib.hid (below_chain HW1.out hb2)
  clear hb2 y0 y1 y2
  go_wp2
  go_ret
  exact ⟨rfl, HW2.out⟩
end Go.Proofs.YtmfjimmodaofdaaGreatDoor

namespace Go.Proofs.YtmfjimmodaofdaaGreatDoor
open Go.RowKit

/-- A step of a script lies at i. -/
def OpAt5 (w : World) (A : Option Addr) (i : Nat) : Prop := ∃ (bk off : Nat) (kk ff : Int) (s : ByteArray) (b : Nat) (n : Int), A = some ⟨bk, off, none⟩ ∧
  w.cell? ⟨bk, off + i * 5, none⟩ = some (.int .i64 kk) ∧ w.cell? ⟨bk, off + i * 5 + 1, none⟩ = some (.int .i64 ff) ∧ w.cell? ⟨bk, off + i * 5 + 2, none⟩ = some (.string s) ∧ w.cell? ⟨bk, off + i * 5 + 3, none⟩ = some (.int .u64 (b : Int)) ∧ w.cell? ⟨bk, off + i * 5 + 4, none⟩ = some (.int .i64 n) ∧ s.size ≤ 9223372036854775807 ∧ b < 18446744073709551616

set_option maxRecDepth 100000 in
set_option maxHeartbeats 2000000 in
theorem all_walk (K : Int) (hPl : ∀ (ff : Int) (s : ByteArray) (b : Nat) (n : Int) W, s.size ≤ 9223372036854775807 → b < 18446744073709551616 → Tab64 W → Tab10 W → Calls Tryz.prog 62 #[.agg #[.int .i64 K, .int .i64 ff, .string s, .int .u64 (b : Int), .int .i64 n]] W fun e w' => e = .returned (.bool true) ∧ Below W.heap.size W w')
    (A : Option Addr) (n c : Nat) (hn : n ≤ 1152921504606846976) (w : World) (ho : ∀ i, i < n → OpAt5 w A i) (ht : Tab64 w) (h10 : Tab10 w) :
    Calls Tryz.prog 29 #[.slice A n c, .int .i64 K, .int .i64 K] w fun e w' => e = .returned (.bool true) ∧ Below w.heap.size w w' := by
  have HPl := Lib.hid hPl
  have HT := Lib.hid ht
  have H10 := Lib.hid h10
  have HO := Lib.hid ho
  have HN := Lib.hid hn
  clear hPl ht h10 ho hn
  go_enter Tryz.func29, Tryz.ntmps29
  go_wp2_with fail
  go_loopw [11] (fun i wr => ∃ k : Nat, k ≤ n ∧ i = .int .i64 (k : Int) ∧ Hid (RowKit.Below w.heap.size w wr)) (fun i _ => n - (intOf i).toNat)
  case atStart => exact ⟨0, by omega, rfl, Lib.hid (Below.refl _ _)⟩
  case round =>
    obtain ⟨k, hk, rfl, HW⟩ := hrel
    by_cases hkn : k < n
    · obtain ⟨bk, off, kk, ff, s, b, m, rfl, c0, c1, c2, c3, c4, hs, hb⟩ := HO.out k hkn
      have d0 : wr.cell? ⟨bk, off + k * 5, none⟩ = some (.int .i64 kk) := cell_kept HW.out c0
      have d1 : wr.cell? ⟨bk, off + k * 5 + 1, none⟩ = some (.int .i64 ff) := cell_kept HW.out c1
      have d2 : wr.cell? ⟨bk, off + k * 5 + 2, none⟩ = some (.string s) := cell_kept HW.out c2
      have d3 : wr.cell? ⟨bk, off + k * 5 + 3, none⟩ = some (.int .u64 (b : Int)) := cell_kept HW.out c3
      have d4 : wr.cell? ⟨bk, off + k * 5 + 4, none⟩ = some (.int .i64 m) := cell_kept HW.out c4
      have HP := Lib.hid (fun W hT hX => HPl.out ff s b m W hs hb hT hX)
      have hki : (k : Int) < (n : Int) := by omega
      have hkw : IntKind.i64.wrap ((k : Int) + 1) = (k : Int) + 1 := by have := HN.out; rw [IntKind.wrap_i64]; omega
      have HWa := Lib.hid (below_chain HW.out (below_alloc' wr (.cells #[.int .i64 kk, .int .i64 ff, .string s, .int .u64 (b : Int), .int .i64 m] 105)))
      clear hs hb c0 c1 c2 c3 c4
      by_cases g1 : K ≤ kk
      · by_cases g2 : kk ≤ K
        · obtain rfl : kk = K := by omega
          go_wp2_with fail
          refine (HP.out _ (HT.out.below HWa.out) (H10.out.below HWa.out)).mono ?_
          rintro e w5 ⟨rfl, hb5⟩
          have HW5 := Lib.hid (below_chain HWa.out hb5)
          clear hb5 d0 d1 d2 d3 d4
          go_wp2_with fail
          go_roundw
          case rel => exact ⟨k + 1, by omega, by go_num, HW5⟩
          case measure => simp [intOf]; omega
        · go_wp2_with fail
          go_roundw
          case rel => exact ⟨k + 1, by omega, by go_num, HWa⟩
          case measure => simp [intOf]; omega
      · go_wp2_with fail
        go_roundw
        case rel => exact ⟨k + 1, by omega, by go_num, HWa⟩
        case measure => simp [intOf]; omega
    · have hki : ¬ (k : Int) < (n : Int) := by omega
      go_wp2
      go_ret
      exact ⟨rfl, HW.out⟩

set_option maxRecDepth 100000 in
set_option maxHeartbeats 1000000 in
theorem parses_walk (A : Option Addr) (n c : Nat) (hn : n ≤ 1152921504606846976) (w : World) (ho : ∀ i, i < n → OpAt5 w A i) (ht : Tab64 w) (h10 : Tab10 w) :
    Calls Tryz.prog 7 #[.slice A n c] w fun e w' => e = .returned (.bool true) ∧ Below w.heap.size w w' := by
  have HA := Lib.hid (awake_walk w ht h10)
  have HL := Lib.hid (fun W (h : Below w.heap.size w W) => all_walk 1 (fun ff s b m W hs _ hT _ => plays_one ff s hs (b : Int) m W hT) A n c hn W (fun i hi => by
    obtain ⟨bk, off, kk, ff, s, b, m, e, c0, c1, c2, c3, c4, hs, hb⟩ := ho i hi
    exact ⟨bk, off, kk, ff, s, b, m, e, cell_kept h c0, cell_kept h c1, cell_kept h c2, cell_kept h c3, cell_kept h c4, hs, hb⟩) (ht.below h) (h10.below h))
  clear ho ht h10 hn
  go_enter Tryz.func7, Tryz.ntmps7
  go_wp2_with fail
  refine HA.out.mono ?_
  rintro e w1 ⟨rfl, hb1⟩
  have HW1 := Lib.hid hb1
  clear hb1
  go_wp2_with fail
  refine (HL.out _ HW1.out).mono ?_
  rintro e w2 ⟨rfl, hb2⟩
  have HW2 := Lib.hid (below_chain HW1.out hb2)
  clear hb2
  go_wp2
  go_ret
  exact ⟨rfl, HW2.out⟩
end Go.Proofs.YtmfjimmodaofdaaGreatDoor
