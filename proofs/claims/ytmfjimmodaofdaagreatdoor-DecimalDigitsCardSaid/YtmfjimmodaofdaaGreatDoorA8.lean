/- Walk of gnomonref11: Shortest. -/
import Derived.Test.YtmfjimmodaofdaaGreatDoorA7
import Derived.Test.YtmfjimmodaofdaaGreatDoorVi
import Derived.Test.YtmfjimmodaofdaaGreatDoorEp
namespace Go.Proofs.YtmfjimmodaofdaaGreatDoor
open Go.RowKit

/-- What Shortest keeps: the format's box, the fraction. -/
structure ShT (w W : World) (sg P L G I Q : Int) (nv dv : Value) (N D : Nat) : Prop where
  x0 : W.cell? ⟨w.heap.size, 0, none⟩ = some (.int .u64 sg)
  x1 : W.cell? ⟨w.heap.size, 1, none⟩ = some (.int .i64 P)
  x2 : W.cell? ⟨w.heap.size, 2, none⟩ = some (.int .i64 L)
  x3 : W.cell? ⟨w.heap.size, 3, none⟩ = some (.int .i64 G)
  x4 : W.cell? ⟨w.heap.size, 4, none⟩ = some (.int .u64 I)
  x5 : W.cell? ⟨w.heap.size, 5, none⟩ = some (.int .u64 Q)
  n : DgAt W nv N
  d : DgAt W dv D
  bl : Below w.heap.size w W
theorem ShT.below {w W W2 : World} {sg P L G I Q : Int} {nv dv : Value} {N D : Nat} (h : ShT w W sg P L G I Q nv dv N D) (hb : Below W.heap.size W W2) : ShT w W2 sg P L G I Q nv dv N D :=
  ⟨cell_kept hb h.x0, cell_kept hb h.x1, cell_kept hb h.x2, cell_kept hb h.x3, cell_kept hb h.x4, cell_kept hb h.x5, h.n.below hb, h.d.below hb, below_chain h.bl hb⟩
/-- In a round: the digits below and above too. -/
structure ShU (w W : World) (sg P L G I Q : Int) (nv dv : Value) (N D : Nat) (lv uv : Value) (a : Nat) : Prop where
  t : ShT w W sg P L G I Q nv dv N D
  lo : DgAt W lv a
  up : DgAt W uv (a + 1)
theorem ShU.below {w W W2 : World} {sg P L G I Q : Int} {nv dv : Value} {N D : Nat} {lv uv : Value} {a : Nat} (h : ShU w W sg P L G I Q nv dv N D lv uv a) (hb : Below W.heap.size W W2) : ShU w W2 sg P L G I Q nv dv N D lv uv a := ⟨h.t.below hb, h.lo.below hb, h.up.below hb⟩
theorem ShU.belowH {w W W2 : World} {sg P L G I Q : Int} {nv dv : Value} {N D : Nat} {lv uv : Value} {a : Nat} (h : Hid (ShU w W sg P L G I Q nv dv N D lv uv a)) (hb : Below W.heap.size W W2) : ShU w W2 sg P L G I Q nv dv N D lv uv a := h.out.below hb
theorem ShU.conj {w W : World} {sg P L G I Q : Int} {nv dv : Value} {N D : Nat} {lv uv : Value} {a : Nat} (h : ShU w W sg P L G I Q nv dv N D lv uv a) : W.cell? ⟨w.heap.size, 0, none⟩ = some (.int .u64 sg) ∧ W.cell? ⟨w.heap.size, 1, none⟩ = some (.int .i64 P) ∧ W.cell? ⟨w.heap.size, 2, none⟩ = some (.int .i64 L) ∧ W.cell? ⟨w.heap.size, 3, none⟩ = some (.int .i64 G) ∧ W.cell? ⟨w.heap.size, 4, none⟩ = some (.int .u64 I) ∧ W.cell? ⟨w.heap.size, 5, none⟩ = some (.int .u64 Q) ∧ Hid (ShU w W sg P L G I Q nv dv N D lv uv a) := ⟨h.t.x0, h.t.x1, h.t.x2, h.t.x3, h.t.x4, h.t.x5, Lib.hid h⟩

/-- The choices of one round, by what the reference asks. -/
theorem sh_round8 {f : Fm} {z : Nat} {q : Int} (h0 : z ≠ 0) (hz : z < f.inf) :
    (IsPat f (tn (shL f z q) q) (td q) z ↔ loOk f z (shL f z q) q) ∧ (IsPat f (tn (shL f z q + 1) q) (td q) z ↔ hiOk f z (shL f z q + 1) q) ∧
    (shL f z q = 0 → ¬ loOk f z (shL f z q) q) ∧ (shR f z q = 0 → loOk f z (shL f z q) q ∧ shD f z q = some (shL f z q)) := by
  obtain ⟨a1, a2, e, hr⟩ := sh_frame f z q h0
  have hm : md f (z - 1) < 2 * vP f z := by
    obtain ⟨s, rfl⟩ : ∃ s, z = s + 1 := ⟨z - 1, by omega⟩
    have := vP_lt f s
    rw [Nat.add_sub_cancel]; unfold md; omega
  have hmp : 0 < md f (z - 1) := by have := vP_lt f (z - 1); unfold md; omega
  have hG := ufG_pos q
  have hF := ufF_pos f q
  refine ⟨?_, ?_, ?_, ?_⟩
  · rw [cell_pat h0 hz]; exact ⟨fun h => h.1, fun h => ⟨h, a1⟩⟩
  · rw [cell_pat h0 hz]; exact ⟨fun h => h.2, fun h => ⟨a2, h⟩⟩
  · intro h hlo
    rw [h] at hlo
    unfold loOk at hlo
    rw [Nat.zero_mul] at hlo
    have := Nat.mul_pos hmp hG
    omega
  · intro h
    rw [h, Nat.add_zero] at e
    have hlo : loOk f z (shL f z q) q := .inl (by rw [e]; exact Nat.mul_lt_mul_of_pos_right hm hG)
    refine ⟨hlo, ?_⟩
    unfold shD
    by_cases hh : hiOk f z (shL f z q + 1) q
    · rw [if_pos ⟨hlo, hh⟩]
      have hsn : shN f z q = true := by
        unfold shN
        rw [h]
        have : cmpI (2 * 0) (ufF f q) = -1 := by unfold cmpI; rw [if_pos (by omega)]
        rw [this]; rfl
      rw [hsn]; rfl
    · rw [if_neg (fun h => hh h.2), if_pos hlo]
theorem shD_lh {f : Fm} {z : Nat} {q : Int} (h1 : loOk f z (shL f z q) q) (h2 : hiOk f z (shL f z q + 1) q) : shD f z q = some (nrN f z q) := by
  unfold shD; rw [if_pos ⟨h1, h2⟩]; rfl
theorem shD_l {f : Fm} {z : Nat} {q : Int} (h1 : loOk f z (shL f z q) q) (h2 : ¬ hiOk f z (shL f z q + 1) q) : shD f z q = some (shL f z q) := by
  unfold shD; rw [if_neg (fun h => h2 h.2), if_pos h1]
theorem shD_h {f : Fm} {z : Nat} {q : Int} (h1 : ¬ loOk f z (shL f z q) q) (h2 : hiOk f z (shL f z q + 1) q) : shD f z q = some (shL f z q + 1) := by
  unfold shD; rw [if_neg (fun h => h1 h.1), if_neg h1, if_pos h2]
theorem shD_no {f : Fm} {z : Nat} {q : Int} (h1 : ¬ loOk f z (shL f z q) q) (h2 : ¬ hiOk f z (shL f z q + 1) q) : shD f z q = none := by
  unfold shD; rw [if_neg (fun h => h1 h.1), if_neg h1, if_neg h2]
theorem sh_less {f : Fm} {z n : Nat} {t q : Int} (h0 : z ≠ 0) (ht : ufF f t ≤ 2 * vP f z * ufG t ∧ 2 * vP f z * ufG (t + 1) < ufF f (t + 1)) (h1 : 1 ≤ n) (h2 : n ≤ 17) (hq : t - n + 1 = q) : shL f z q < 10 ^ 17 ∧ nrN f z q < 10 ^ 18 := by
  have h3 := ten_above ht.2 (n - 1)
  rw [show t - ((n - 1 : Nat) : Int) = q by omega, show n - 1 + 1 = n by omega] at h3
  have hF := ufF_pos f q
  have h4 : shL f z q < 10 ^ n := (Nat.div_lt_iff_lt_mul hF).2 h3
  have h5 : 10 ^ n ≤ 10 ^ 17 := Nat.pow_le_pow_right (by omega) h2
  obtain ⟨_, _, _, n4⟩ := nr_near f z q h0
  have h6 : (10 : Nat) ^ 18 = 10 * 10 ^ 17 := by decide
  omega

set_option maxRecDepth 100000 in
set_option maxHeartbeats 4000000 in
theorem rshort_gen (f : Fm) (hf : f.ok) (sg P L G I Q : Int) (z : Nat) (h0 : z ≠ 0) (hz : z < f.inf)
    (hPa : ∀ W, Calls Tryz.prog 182 #[.agg #[.int .u64 sg, .int .i64 P, .int .i64 L, .int .i64 G, .int .u64 I, .int .u64 Q], .int .u64 (z : Int)] W fun e w' => e = .returned (.tuple #[.int .u64 ((mnt f z : Nat) : Int), .int .i64 (f.L + (mex f z : Int))]) ∧ Below W.heap.size W w')
    (hSz : ∀ nv dv N D W, DgAt W nv N → DgAt W dv D → N ≠ 0 → D ≠ 0 → blen N ≤ 59000 → blen D ≤ 59000 → Calls Tryz.prog 176 #[.agg #[.int .u64 sg, .int .i64 P, .int .i64 L, .int .i64 G, .int .u64 I, .int .u64 Q], .agg #[nv, dv, .int .i64 0, .bool false]] W fun r w' => ∃ p : Nat, r = .returned (.int .u64 (p : Int)) ∧ IsPat f N D p ∧ p ≤ f.inf ∧ Below W.heap.size W w')
    (w : World) :
    Calls Tryz.prog 149 #[.agg #[.int .u64 sg, .int .i64 P, .int .i64 L, .int .i64 G, .int .u64 I, .int .u64 Q], .int .u64 (z : Int)] w fun e w' => ∃ (v : Value) (d : Nat) (q : Int), e = .returned (.tuple #[v, .int .i64 q]) ∧ DgAt w' v d ∧ (ShOk f z d q ∧ d < 10 ^ 18 ∧ -500 ≤ q ∧ q ≤ 500) ∧ Below w.heap.size w w' := by
  have hvm := vP_mnt f z
  have hm2 : mnt f z * 2 ^ (mex f z + 1) = 2 * vP f z := by rw [hvm, Nat.pow_succ]; ac_rfl
  have hm0 : mnt f z ≠ 0 := mnt_pos h0
  have hmx : mnt f z < 2 ^ 53 ∧ -1200 ≤ f.L + (mex f z : Int) ∧ f.L + (mex f z : Int) ≤ 1100 := by
    rcases hf with h | h
    · subst h
      obtain ⟨h1, h2⟩ := mex_S z hz
      exact ⟨Nat.lt_of_lt_of_le h2 (by decide), by show -1200 ≤ (-149 : Int) + _; omega, by show (-149 : Int) + _ ≤ 1100; omega⟩
    · subst h
      obtain ⟨h1, h2⟩ := mex_D z hz
      exact ⟨h2, by show -1200 ≤ (-1074 : Int) + _; omega, by show (-1074 : Int) + _ ≤ 1100; omega⟩
  obtain ⟨hmb, hxb1, hxb2⟩ := hmx
  have hUnits := fun q => units_sh (f := f) hf (z := z) (m := mnt f z) (u := mex f z) (q := q) hm2
  have hTU := fun t (h : tenIs (mnt f z) (f.L + (mex f z : Int)) t) => ten_units hf (z := z) hm2 h
  obtain ⟨m, hm⟩ : ∃ m, mnt f z = m := ⟨_, rfl⟩
  obtain ⟨x, hx⟩ : ∃ x : Int, f.L + (mex f z : Int) = x := ⟨_, rfl⟩
  simp only [hm, hx] at hPa hm0 hmb hxb1 hxb2 hUnits hTU
  have hbm : blen m ≤ 53 := blen_le.2 hmb
  have hb1 := blen_mul m (2 ^ x.toNat)
  have hb2 := blen_pow_two x.toNat
  have hb3 := blen_pow_two (-x).toNat
  have HPt := Lib.hid (fun W => rparts_gen sg P L G I Q z m x (by omega) hxb1 (by omega) hPa W)
  have HPw := Lib.hid (fun nv dv W (a : DgAt W nv (m * 2 ^ x.toNat)) (b : DgAt W dv (2 ^ (-x).toNat)) => rpower_walk nv dv m x W a b hm0 (by omega) hxb1 hxb2)
  have hDp : 2 ^ (-x).toNat ≠ 0 := by have := Nat.two_pow_pos (-x).toNat; omega
  have HUn := Lib.hid (fun nv dv q W (a : DgAt W nv (m * 2 ^ x.toNat)) (b : DgAt W dv (2 ^ (-x).toNat)) (h1 : -2000 ≤ q) (h2 : q ≤ 2000) => show Calls Tryz.prog 156 #[nv, dv, .int .i64 q] W fun e w' => ∃ v, e = .returned (.tuple #[v, .int .i64 (halfC (inA m x q) (inB x q))]) ∧ DgAt w' v (shL f z q) ∧ Below W.heap.size W w' from by
    have h3 := runits_walk nv dv _ _ q W a b hDp (by omega) (by omega) h1 h2
    rw [(in_eq m x q).1, (in_eq m x q).2, (hUnits q).1] at h3
    exact h3)
  have HTU := Lib.hid hTU
  have HUni := Lib.hid (fun q => (hUnits q).2)
  obtain ⟨N, hN⟩ : ∃ N, m * 2 ^ x.toNat = N := ⟨_, rfl⟩
  obtain ⟨D, hD⟩ : ∃ D, 2 ^ (-x).toNat = D := ⟨_, rfl⟩
  simp only [hN, hD] at HPt HPw HUn
  have HR := Lib.hid (fun q => sh_round8 (f := f) (z := z) (q := q) h0 hz)
  have HLs := Lib.hid (fun (n : Nat) (t q : Int) ht h1 h2 hq => sh_less (f := f) (z := z) (n := n) (t := t) (q := q) h0 ht h1 h2 hq)
  have HEnds := Lib.hid (fun (t : Int) ht => sh_ends hf h0 (t := t) ht)
  have HWo := Lib.hid (fun W => show Calls Tryz.prog 179 #[.int .u64 1] W fun e w' => ∃ v', e = .returned v' ∧ DgAt w' v' 1 ∧ Below W.heap.size W w' from rword_walk 1 (by decide) W)
  have HAd := Lib.hid (fun W v o a (hl : (toD a).length ≤ 50000) (g : DgAt W v a) (k : DgAt W o 1) => radd_walk v o a 1 W g k hl (by rw [toD_length]; decide))
  have HDe := Lib.hid (fun W v a q (g : DgAt W v a) (hl : blen a ≤ 100) (h1 : -2000 ≤ q) (h2 : q ≤ 2000) => rdecimal_walk v a q W g (by omega) (by omega) (by omega))
  have HNr := Lib.hid (fun v a h W (g : DgAt W v a) (hl : (toD a).length ≤ 30000) => rnearer_walk v a h W g hl)
  have HSz := Lib.hid hSz
  have hw0 := below_alloc' w (.cells #[.int .u64 sg, .int .i64 P, .int .i64 L, .int .i64 G, .int .u64 I, .int .u64 Q] 122)
  have HX0 := Lib.hid (show (w.alloc (.cells #[.int .u64 sg, .int .i64 P, .int .i64 L, .int .i64 G, .int .u64 I, .int .u64 Q] 122)).cell? ⟨w.heap.size, 0, none⟩ = some (.int .u64 sg) ∧ (w.alloc (.cells #[.int .u64 sg, .int .i64 P, .int .i64 L, .int .i64 G, .int .u64 I, .int .u64 Q] 122)).cell? ⟨w.heap.size, 1, none⟩ = some (.int .i64 P) ∧ (w.alloc (.cells #[.int .u64 sg, .int .i64 P, .int .i64 L, .int .i64 G, .int .u64 I, .int .u64 Q] 122)).cell? ⟨w.heap.size, 2, none⟩ = some (.int .i64 L) ∧ (w.alloc (.cells #[.int .u64 sg, .int .i64 P, .int .i64 L, .int .i64 G, .int .u64 I, .int .u64 Q] 122)).cell? ⟨w.heap.size, 3, none⟩ = some (.int .i64 G) ∧ (w.alloc (.cells #[.int .u64 sg, .int .i64 P, .int .i64 L, .int .i64 G, .int .u64 I, .int .u64 Q] 122)).cell? ⟨w.heap.size, 4, none⟩ = some (.int .u64 I) ∧ (w.alloc (.cells #[.int .u64 sg, .int .i64 P, .int .i64 L, .int .i64 G, .int .u64 I, .int .u64 Q] 122)).cell? ⟨w.heap.size, 5, none⟩ = some (.int .u64 Q) from ⟨by simp, by simp, by simp, by simp, by simp, by simp⟩)
  have HW0 := Lib.hid hw0
  have HZ0 := Lib.hid (show z ≠ 0 from h0)
  clear hvm hm2 hm0 hmb hxb1 hxb2 hUnits hTU hm hx hbm hb1 hb2 hb3 hDp hN hD hw0 hPa hSz h0 hz hf
  go_enter Tryz.func149, Tryz.ntmps149
  go_wp2_with fail
  refine (HPt.out _).mono ?_
  rintro e w1 ⟨nv, dv, rfl, hn, hd, hb1⟩
  have HS1 := Lib.hid (show ShT w w1 sg P L G I Q nv dv N D from ⟨cell_kept hb1 HX0.out.1, cell_kept hb1 HX0.out.2.1, cell_kept hb1 HX0.out.2.2.1, cell_kept hb1 HX0.out.2.2.2.1, cell_kept hb1 HX0.out.2.2.2.2.1, cell_kept hb1 HX0.out.2.2.2.2.2, hn, hd, below_chain HW0.out hb1⟩)
  clear hn hd hb1 HX0 HW0
  go_wp2_with fail
  refine (HPw.out _ _ _ HS1.out.n HS1.out.d).mono ?_
  rintro e w2 ⟨t, rfl, ht, ht1, ht2, hb2⟩
  have HS2 := Lib.hid (HS1.out.below hb2)
  have HT := Lib.hid (HTU.out t ht)
  have HTb := Lib.hid (show -430 ≤ t ∧ t ≤ 430 from ⟨ht1, ht2⟩)
  clear ht hb2 HS1 HTU HPt HPw
  go_wp2_with fail
  go_loopw [9] (fun pv wr => ∃ n : Nat, pv = .int .i64 (n : Int) ∧ 1 ≤ n ∧ n ≤ 17 ∧ Hid (∀ k : Nat, 1 ≤ k → k < n → shD f z (t - k + 1) = none) ∧ Hid (ShT w wr sg P L G I Q nv dv N D)) (fun pv _ => (18 - intOf pv).toNat)
  case atStart => exact ⟨1, rfl, Nat.le_refl _, by omega, Lib.hid (fun k h1 h2 => by omega), HS2⟩
  case round =>
    obtain ⟨n, rfl, hn1, hn2, HNo, HSr⟩ := hrel
    obtain ⟨q, hq⟩ : ∃ q : Int, t - (n : Int) + 1 = q := ⟨_, rfl⟩
    have p1 : IntKind.i64.wrap (t - (n : Int)) = t - (n : Int) := by rw [IntKind.wrap_i64]; omega
    have p2 : IntKind.i64.wrap (t - (n : Int) + 1) = q := by rw [IntKind.wrap_i64]; omega
    have p3 : IntKind.i64.wrap ((n : Int) + 1) = ((n + 1 : Nat) : Int) := by rw [IntKind.wrap_i64]; omega
    have hqb : -500 ≤ q ∧ q ≤ 500 := by omega
    obtain ⟨r1, r2, r3, r4⟩ := HR.out q
    obtain ⟨ls1, ls2⟩ := HLs.out n t q HT.out hn1 hn2 hq
    obtain ⟨un1, un2⟩ := HUni.out q
    have HU := Lib.hid (fun W (a : DgAt W nv N) (b : DgAt W dv D) => HUn.out nv dv q W a b (by omega) (by omega))
    obtain ⟨a, ha⟩ : ∃ a, shL f z q = a := ⟨_, rfl⟩
    obtain ⟨hf, hhf⟩ : ∃ hf, halfC (inA m x q) (inB x q) = hf := ⟨_, rfl⟩
    simp only [hhf] at HU un1 un2
    simp only [ha] at HU r1 r2 r3 r4 ls1 un1
    have hba : blen a ≤ 60 := blen_le.2 (by omega)
    have hba1 : blen (a + 1) ≤ 60 := blen_le.2 (by omega)
    have hla : (toD a).length ≤ 2 := by rw [toD_length]; omega
    have hla1 : (toD (a + 1)).length ≤ 2 := by rw [toD_length]; omega
    have hlz := toD_length_zero a
    obtain ⟨k, hk⟩ : ∃ k, (toD a).length = k := ⟨_, rfl⟩
    rw [hk] at hla hlz
    -- the two questions
    obtain ⟨lo, hlo⟩ : ∃ lo : Bool, decide (loOk f z (shL f z q) q) = lo := ⟨_, rfl⟩
    obtain ⟨hi, hhi⟩ : ∃ hi : Bool, decide (hiOk f z (shL f z q + 1) q) = hi := ⟨_, rfl⟩
    have HLow : Hid (a ≠ 0 → ∀ nv dv W, DgAt W nv (tn a q) → DgAt W dv (td q) → Calls Tryz.prog 176 #[.agg #[.int .u64 sg, .int .i64 P, .int .i64 L, .int .i64 G, .int .u64 I, .int .u64 Q], .agg #[nv, dv, .int .i64 0, .bool false]] W fun r w' => ∃ p : Nat, r = .returned (.int .u64 (p : Int)) ∧ ((p : Int) == (z : Int)) = lo ∧ Below W.heap.size W w') := Lib.hid fun ha0 nv dv W g1 g2 => by
      have h1 := blen_mul a (10 ^ q.toNat)
      have h2 := blen_pow_ten q.toNat
      have h3 := blen_pow_ten (-q).toNat
      refine (HSz.out nv dv _ _ W g1 g2 (Nat.mul_ne_zero ha0 (Nat.ne_of_gt (Nat.pow_pos (by omega)))) (Nat.ne_of_gt (td_pos q)) (by unfold tn; omega) (by unfold td; omega)).mono ?_
      rintro r w' ⟨p, rfl, hp, _, hb⟩
      refine ⟨p, rfl, ?_, hb⟩
      rw [← hlo, ha]
      by_cases hl : loOk f z a q
      · rw [decide_eq_true hl, hp.unique (r1.2 hl)]; simp
      · rw [decide_eq_false hl, beq_eq_false_iff_ne]
        intro e
        have e2 : p = z := by omega
        exact hl (r1.1 (by rw [← e2]; exact hp))
    have HHigh : Hid (∀ nv dv W, DgAt W nv (tn (a + 1) q) → DgAt W dv (td q) → Calls Tryz.prog 176 #[.agg #[.int .u64 sg, .int .i64 P, .int .i64 L, .int .i64 G, .int .u64 I, .int .u64 Q], .agg #[nv, dv, .int .i64 0, .bool false]] W fun r w' => ∃ p : Nat, r = .returned (.int .u64 (p : Int)) ∧ ((p : Int) == (z : Int)) = hi ∧ Below W.heap.size W w') := Lib.hid fun nv dv W g1 g2 => by
      have h1 := blen_mul (a + 1) (10 ^ q.toNat)
      have h2 := blen_pow_ten q.toNat
      have h3 := blen_pow_ten (-q).toNat
      refine (HSz.out nv dv _ _ W g1 g2 (Nat.mul_ne_zero (by omega) (Nat.ne_of_gt (Nat.pow_pos (by omega)))) (Nat.ne_of_gt (td_pos q)) (by unfold tn; omega) (by unfold td; omega)).mono ?_
      rintro r w' ⟨p, rfl, hp, _, hb⟩
      refine ⟨p, rfl, ?_, hb⟩
      rw [← hhi, ha]
      by_cases hl : hiOk f z (a + 1) q
      · rw [decide_eq_true hl, hp.unique (r2.2 hl)]; simp
      · rw [decide_eq_false hl, beq_eq_false_iff_ne]
        intro e
        have e2 : p = z := by omega
        exact hl (r2.1 (by rw [← e2]; exact hp))
    have HDl := Lib.hid (fun W v (g : DgAt W v a) => HDe.out W v a q g (by omega) (by omega) (by omega))
    have HDu := Lib.hid (fun W v (g : DgAt W v (a + 1)) => HDe.out W v (a + 1) q g (by omega) (by omega) (by omega))
    have HAa := Lib.hid (fun W v o (g : DgAt W v a) (k : DgAt W o 1) => HAd.out W v o a (by omega) g k)
    have HNa := Lib.hid (fun v W (g : DgAt W v a) => HNr.out v a hf W g (by omega))
    -- what each outcome means
    have HLf : Hid (k = 0 → lo = false) := Lib.hid fun e => by
      have h := r3 (hlz.1 e)
      rw [← hlo, ha]; exact decide_eq_false h
    have HL2 : Hid (hf = 2 → lo = true ∧ shD f z q = some a) := Lib.hid fun e => by
      obtain ⟨h1, h2⟩ := r4 (un2.1 e)
      rw [← hlo, ha]; exact ⟨decide_eq_true h1, h2⟩
    have HD1 : Hid (lo = true → hi = true → shD f z q = some (nearV a hf)) := Lib.hid fun e1 e2 => by
      rw [un1, shD_lh (by rw [← hlo] at e1; exact of_decide_eq_true e1) (by rw [← hhi] at e2; exact of_decide_eq_true e2)]
    have HD2 : Hid (lo = true → hi = false → shD f z q = some a) := Lib.hid fun e1 e2 => by
      rw [shD_l (by rw [← hlo] at e1; exact of_decide_eq_true e1) (by rw [← hhi] at e2; exact of_decide_eq_false e2), ha]
    have HD3 : Hid (lo = false → hi = true → shD f z q = some (a + 1)) := Lib.hid fun e1 e2 => by
      rw [shD_h (by rw [← hlo] at e1; exact of_decide_eq_false e1) (by rw [← hhi] at e2; exact of_decide_eq_true e2), ha]
    have HD4 : Hid (lo = false → hi = false → shD f z q = none) := Lib.hid fun e1 e2 => by
      rw [shD_no (by rw [← hlo] at e1; exact of_decide_eq_false e1) (by rw [← hhi] at e2; exact of_decide_eq_false e2)]
    have HOk : Hid (∀ d, shD f z q = some d → d < 10 ^ 18 → ShOk f z d q ∧ d < 10 ^ 18 ∧ -500 ≤ q ∧ q ≤ 500) := Lib.hid fun d hd hlt =>
      ⟨⟨t, n, HT.out, hn1, hn2, hq.symm, hd, HNo.out⟩, hlt, by omega, by omega⟩
    have HLt : Hid (a < 10 ^ 18 ∧ a + 1 < 10 ^ 18 ∧ nearV a hf < 10 ^ 18) := Lib.hid ⟨by omega, by omega, by rw [un1]; exact ls2⟩
    have HMore : Hid (shD f z q = none → n + 1 ≤ 17 ∧ ∀ k : Nat, 1 ≤ k → k < n + 1 → shD f z (t - k + 1) = none) := Lib.hid fun h => by
      refine ⟨?_, fun k h1 h2 => ?_⟩
      · refine Nat.lt_of_le_of_ne hn2 fun e => ?_
        have := HEnds.out t HT.out.1
        rw [show t - 16 = q by omega] at this
        exact this h
      · by_cases e : k = n
        · rw [e, hq]; exact h
        · exact HNo.out k h1 (by omega)
    have HA0 := Lib.hid (show 0 < k → a ≠ 0 from fun h e => by have := hlz.2 e; omega)
    have HK := Lib.hid hk
    clear r1 r2 r3 r4 ls1 ls2 un1 un2 ha hhf hba hba1 hla hla1 hlz hlo hhi hqb hq hk
    go_wp2_with fail
    refine (HU.out _ HSr.out.n HSr.out.d).mono ?_
    rintro e w3 ⟨lv, rfl, hlv, hb3⟩
    have HLv := Lib.hid hlv
    have HS3 := Lib.hid (HSr.out.below hb3)
    clear hlv hb3 HU
    go_wp2_with fail
    refine (HWo.out _).mono ?_
    rintro e w4 ⟨ov, rfl, hov, hb4⟩
    have HOv := Lib.hid hov
    have HLv4 := Lib.hid (HLv.out.below hb4)
    have HS4 := Lib.hid (HS3.out.below hb4)
    clear hov hb4 HS3 HLv
    go_wp2_with fail
    refine (HAa.out _ _ _ HLv4.out HOv.out).mono ?_
    rintro e w5 ⟨uv, rfl, huv, hb5⟩
    have HS5 := Lib.hid (show ShU w w5 sg P L G I Q nv dv N D lv uv a from ⟨HS4.out.below hb5, HLv4.out.below hb5, huv⟩)
    clear huv hb5 HS4 HLv4 HOv HAa
    obtain ⟨A, c, rfl, _, _, _⟩ := id HS5.out.lo
    obtain ⟨A2, c2, rfl, _, _, _⟩ := id HS5.out.up
    rw [HK.out] at HS5 ⊢
    obtain ⟨k2, hk2⟩ : ∃ k2, (toD (a + 1)).length = k2 := ⟨_, rfl⟩
    rw [hk2] at HS5 ⊢
    clear hk2
    have HS5d := Lib.hid (HS5.out.below (below_draw' w5))
    have hparts : (k = 0 ∧ lo = false) ∨ 0 < k := by
      rcases Nat.eq_zero_or_pos k with e | e
      · exact .inl ⟨e, HLf.out e⟩
      · exact .inr e
    clear p1
    go_wp2_with fail
    rcases hparts with ⟨hk0, hl0⟩ | hkp
    · subst hk0
      subst hl0
      go_quiet (fail)
      have HK7 := Lib.hid (HS5.out.below (below_dn (Below.refl _ _) nq))
      clear HS5 HS5d
      by_cases hh2 : hf = 2
      · exact absurd (HL2.out hh2).1 (by decide)
      have n1 : (hf != 2) = true := by simp [hh2]
      have n2 : (hf == 2) = false := by rw [beq_eq_false_iff_ne]; exact hh2
      go_wp2_with fail
      have HKd := Lib.hid (HK7.out.below (below_draw' _))
      go_region_held3 (fun w' => w'.cell? ⟨w.heap.size, 0, none⟩ = some (.int .u64 sg) ∧ w'.cell? ⟨w.heap.size, 1, none⟩ = some (.int .i64 P) ∧ w'.cell? ⟨w.heap.size, 2, none⟩ = some (.int .i64 L) ∧ w'.cell? ⟨w.heap.size, 3, none⟩ = some (.int .i64 G) ∧ w'.cell? ⟨w.heap.size, 4, none⟩ = some (.int .u64 I) ∧ w'.cell? ⟨w.heap.size, 5, none⟩ = some (.int .u64 Q) ∧ Hid (ShU w w' sg P L G I Q nv dv N D (.slice A 0 c) (.slice A2 k2 c2) a))
        (first | exact HKd.out.conj | (go_split_ands; exact (ShU.belowH (by assumption) hb8).conj) | (go_split_ands; exact (ShU.belowH (by assumption) hb9).conj))
        (first
          | (go_split_ands; go_at_call 177; refine (HDu.out _ _ (ShU.up (Hid.out (by assumption)))).mono ?_; rintro e w8 ⟨n8, d8, rfl, hx8, hy8, hb8⟩; have HX8 := Lib.hid hx8; have HY8 := Lib.hid hy8; clear hx8 hy8)
          | (go_split_ands; go_at_call 176; refine (HHigh.out _ _ _ HX8.out HY8.out).mono ?_; rintro e w9 ⟨p9, rfl, hpe9, hb9⟩))
      have HK9 : Hid (ShU w w9 sg P L G I Q nv dv N D (.slice A 0 c) (.slice A2 k2 c2) a) := Lib.hid (by go_split_ands; exact ShU.belowH (by assumption) hb9)
      cases hi
      · have HMo := Lib.hid (HMore.out (HD4.out (by first | rfl | trivial) (by first | rfl | trivial)))
        have HSx := Lib.hid HK9.out.t
        go_wp2_with fail
        go_roundw
        case rel => exact ⟨n + 1, rfl, by omega, HMo.out.1, Lib.hid HMo.out.2, HSx⟩
        case measure => have := HMo.out.1; simp [intOf]; omega
      · have HOx := Lib.hid (HOk.out _ (HD3.out (by first | rfl | trivial) (by first | rfl | trivial)) HLt.out.2.1)
        go_wp2
        go_ret2
        exact ⟨_, a + 1, q, rfl, HK9.out.up, HOx.out, HK9.out.t.bl⟩
    · have hki : (0 : Int) < (k : Int) := by omega
      have hkd : decide (0 < k) = true := decide_eq_true hkp
      have HLw := Lib.hid (HLow.out (HA0.out hkp))
      clear hkp
      go_region_held3 (fun w' => w'.cell? ⟨w.heap.size, 0, none⟩ = some (.int .u64 sg) ∧ w'.cell? ⟨w.heap.size, 1, none⟩ = some (.int .i64 P) ∧ w'.cell? ⟨w.heap.size, 2, none⟩ = some (.int .i64 L) ∧ w'.cell? ⟨w.heap.size, 3, none⟩ = some (.int .i64 G) ∧ w'.cell? ⟨w.heap.size, 4, none⟩ = some (.int .u64 I) ∧ w'.cell? ⟨w.heap.size, 5, none⟩ = some (.int .u64 Q) ∧ Hid (ShU w w' sg P L G I Q nv dv N D (.slice A k c) (.slice A2 k2 c2) a))
        (first | exact HS5d.out.conj | (go_split_ands; exact (ShU.belowH (by assumption) hb6).conj) | (go_split_ands; exact (ShU.belowH (by assumption) hb7).conj))
        (first
          | (go_split_ands; go_at_call 177; refine (HDl.out _ _ (ShU.lo (Hid.out (by assumption)))).mono ?_; rintro e w6 ⟨n6, d6, rfl, hx6, hy6, hb6⟩; have HX6 := Lib.hid hx6; have HY6 := Lib.hid hy6; clear hx6 hy6)
          | (go_split_ands; go_at_call 176; refine (HLw.out _ _ _ HX6.out HY6.out).mono ?_; rintro e w7 ⟨p7, rfl, hpe7, hb7⟩))
      have HK7 : Hid (ShU w w7 sg P L G I Q nv dv N D (.slice A k c) (.slice A2 k2 c2) a) := Lib.hid (by go_split_ands; exact ShU.belowH (by assumption) hb7)
      clear hpe7 HS5 HS5d
      by_cases hh2 : hf = 2
      · obtain ⟨hl1, hsd⟩ := HL2.out hh2
        subst hl1
        subst hh2
        have HSd := Lib.hid hsd
        clear hsd
        go_wp2_with fail
        go_quiet (fail)
        have HK9 := Lib.hid (HK7.out.below (below_dn (Below.refl _ _) nq))
        have HOx := Lib.hid (HOk.out _ (HSd.out) HLt.out.1)
        go_wp2
        go_ret2
        exact ⟨_, a, q, rfl, HK9.out.lo, HOx.out, HK9.out.t.bl⟩
      · have n1 : (hf != 2) = true := by simp [hh2]
        have n2 : (hf == 2) = false := by rw [beq_eq_false_iff_ne]; exact hh2
        go_wp2_with fail
        have HKd := Lib.hid (HK7.out.below (below_draw' _))
        go_region_held3 (fun w' => w'.cell? ⟨w.heap.size, 0, none⟩ = some (.int .u64 sg) ∧ w'.cell? ⟨w.heap.size, 1, none⟩ = some (.int .i64 P) ∧ w'.cell? ⟨w.heap.size, 2, none⟩ = some (.int .i64 L) ∧ w'.cell? ⟨w.heap.size, 3, none⟩ = some (.int .i64 G) ∧ w'.cell? ⟨w.heap.size, 4, none⟩ = some (.int .u64 I) ∧ w'.cell? ⟨w.heap.size, 5, none⟩ = some (.int .u64 Q) ∧ Hid (ShU w w' sg P L G I Q nv dv N D (.slice A k c) (.slice A2 k2 c2) a))
          (first | exact HKd.out.conj | (go_split_ands; exact (ShU.belowH (by assumption) hb8).conj) | (go_split_ands; exact (ShU.belowH (by assumption) hb9).conj))
          (first
            | (go_split_ands; go_at_call 177; refine (HDu.out _ _ (ShU.up (Hid.out (by assumption)))).mono ?_; rintro e w8 ⟨n8, d8, rfl, hx8, hy8, hb8⟩; have HX8 := Lib.hid hx8; have HY8 := Lib.hid hy8; clear hx8 hy8)
            | (go_split_ands; go_at_call 176; refine (HHigh.out _ _ _ HX8.out HY8.out).mono ?_; rintro e w9 ⟨p9, rfl, hpe9, hb9⟩))
        have HK9 : Hid (ShU w w9 sg P L G I Q nv dv N D (.slice A k c) (.slice A2 k2 c2) a) := Lib.hid (by go_split_ands; exact ShU.belowH (by assumption) hb9)
        cases lo
        · cases hi
          · have HMo := Lib.hid (HMore.out (HD4.out (by first | rfl | trivial) (by first | rfl | trivial)))
            have HSx := Lib.hid HK9.out.t
            go_wp2_with fail
            go_roundw
            case rel => exact ⟨n + 1, rfl, by omega, HMo.out.1, Lib.hid HMo.out.2, HSx⟩
            case measure => have := HMo.out.1; simp [intOf]; omega
          · have HOx := Lib.hid (HOk.out _ (HD3.out (by first | rfl | trivial) (by first | rfl | trivial)) HLt.out.2.1)
            go_wp2
            go_ret2
            exact ⟨_, a + 1, q, rfl, HK9.out.up, HOx.out, HK9.out.t.bl⟩
        · cases hi
          · have HOx := Lib.hid (HOk.out _ (HD2.out (by first | rfl | trivial) (by first | rfl | trivial)) HLt.out.1)
            go_wp2
            go_ret2
            exact ⟨_, a, q, rfl, HK9.out.lo, HOx.out, HK9.out.t.bl⟩
          · have HOx := Lib.hid (HOk.out _ (HD1.out (by first | rfl | trivial) (by first | rfl | trivial)) HLt.out.2.2)
            go_wp2_with fail
            refine (HNa.out _ _ HK9.out.lo).mono ?_
            rintro e wn ⟨xv, rfl, hxv, hbn⟩
            have HXv := Lib.hid hxv
            have HBn := Lib.hid (below_chain HK9.out.t.bl hbn)
            obtain ⟨A9, c9, rfl, _, _, _⟩ := hxv
            clear hbn
            go_wp2
            go_ret2
            exact ⟨_, _, q, rfl, HXv.out, HOx.out, HBn.out⟩
end Go.Proofs.YtmfjimmodaofdaaGreatDoor
