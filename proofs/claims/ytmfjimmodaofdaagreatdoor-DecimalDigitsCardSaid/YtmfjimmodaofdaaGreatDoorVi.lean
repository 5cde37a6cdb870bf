/- Walks of gnomonref08: order, Hold. · Walk of gnomonref08: Size. -/
import Derived.Test.YtmfjimmodaofdaaGreatDoorVm
import Derived.Test.YtmfjimmodaofdaaGreatDoorQv
import Derived.Deep.RegionHeld3
import Derived.Test.YtmfjimmodaofdaaGreatDoorV7
import Derived.Test.YtmfjimmodaofdaaGreatDoorGq
namespace Go.Proofs.YtmfjimmodaofdaaGreatDoor
open Go.RowKit

set_option maxRecDepth 100000 in
set_option maxHeartbeats 1000000 in
theorem order_walk (v u : Value) (a b : Nat) (e : Int) (w : World) (h : DgAt w v a) (g : DgAt w u b) (ha : a ≠ 0) (hb : b ≠ 0) (hs : blen a ≤ 60000) (hs2 : blen b ≤ 60000) (h1 : -2000 ≤ e) (h2 : e ≤ 2000) :
    Calls Tryz.prog 225 #[v, .int .i64 e, u, .int .i64 0] w fun r w' => r = .returned (.int .i64 (cmpD (a * 2 ^ (e - min e 0).toNat) (b * 2 ^ (0 - min e 0).toNat))) ∧ Below w.heap.size w w' := by
  have hla : (toD a).length ≤ 2000 := by rw [toD_length]; omega
  have hlb : (toD b).length ≤ 2000 := by rw [toD_length]; omega
  have hB1 := rbits_walk v a w h (by omega)
  have hB2 := rbits_walk u b w g (by omega)
  have c1 := ordD_low (a := a) (e := e) hb
  have c2 := ordD_high (b := b) (e := e) ha
  obtain ⟨k, hk⟩ : ∃ k, min e 0 = k := ⟨_, rfl⟩
  rw [hk, show (0 : Int) - k = -k by omega] at c1 c2 ⊢
  have k1 : k ≤ e ∧ k ≤ 0 ∧ -2000 ≤ k := by omega
  have HS1 := Lib.hid (rshl_walk v a (e - k) w h (by omega) (by omega) (by omega))
  have HS2 := Lib.hid (fun W (hW : Below w.heap.size w W) => rshl_walk u b (-k) W (g.below hW) (by omega) (by omega) (by omega))
  have l1 : blen (a * 2 ^ (e - k).toNat) = blen a + (e - k).toNat := blen_mul_pow ha _
  have HC := Lib.hid (fun x y W (hx : DgAt W x (a * 2 ^ (e - k).toNat)) (hy : DgAt W y (b * 2 ^ (-k).toNat)) => rncmp_walk x y _ _ W hx hy (by rw [toD_length, l1]; omega))
  have p1 : IntKind.i64.wrap (e - k) = e - k := by rw [IntKind.wrap_i64]; omega
  have p2 : IntKind.i64.wrap (-k) = -k := by rw [IntKind.wrap_i64]; omega
  obtain ⟨P, hP⟩ : ∃ P, a * 2 ^ (e - k).toNat = P := ⟨_, rfl⟩
  obtain ⟨Q, hQ⟩ : ∃ Q, b * 2 ^ (-k).toNat = Q := ⟨_, rfl⟩
  rw [hP] at c1 c2 HS1 l1
  rw [hQ] at c1 c2
  simp only [hP, hQ] at HC HS2 ⊢
  obtain ⟨A, hA⟩ : ∃ A, blen a = A := ⟨_, rfl⟩
  obtain ⟨B, hB⟩ : ∃ B, blen b = B := ⟨_, rfl⟩
  rw [hA] at hB1 c1 c2 hs
  rw [hB] at hB2 c1 c2 hs2
  have HB1 := Lib.hid hB1
  have HB2 := Lib.hid hB2
  clear hB1 hB2 h g hla hlb l1 hP hQ hA hB ha hb
  obtain ⟨t, ht⟩ : ∃ t : Int, (A : Int) + e = t := ⟨_, rfl⟩
  have q1 : IntKind.i64.wrap ((A : Int) + e) = t := by rw [IntKind.wrap_i64]; omega
  have q2 : IntKind.i64.wrap (B : Int) = (B : Int) := by rw [IntKind.wrap_i64]; omega
  rw [ht] at c1 c2
  clear ht hs hs2
  by_cases d1 : t < (B : Int)
  · rw [c1 d1]
    clear c1 c2 HC HS1 HS2 p1 p2 hk k1
    go_enter Tryz.func225, Tryz.ntmps225
    go_wp2_with fail
    refine HB1.out.mono ?_
    rintro r w1 ⟨rfl, hw1⟩
    have e := hw1.symm
    subst e
    clear hw1
    go_wp2_with fail
    refine HB2.out.mono ?_
    rintro r w1 ⟨rfl, hw1⟩
    have e := hw1.symm
    subst e
    clear hw1
    go_wp2
    go_ret
    exact ⟨rfl, Below.refl _ _⟩
  by_cases d2 : (B : Int) < t
  · rw [c2 d2]
    clear c1 c2 HC HS1 HS2 p1 p2 hk k1
    go_enter Tryz.func225, Tryz.ntmps225
    go_wp2_with fail
    refine HB1.out.mono ?_
    rintro r w1 ⟨rfl, hw1⟩
    have e := hw1.symm
    subst e
    clear hw1
    go_wp2_with fail
    refine HB2.out.mono ?_
    rintro r w1 ⟨rfl, hw1⟩
    have e := hw1.symm
    subst e
    clear hw1
    go_wp2
    go_ret
    exact ⟨rfl, Below.refl _ _⟩
  · clear c1 c2
    go_enter Tryz.func225, Tryz.ntmps225
    go_wp2_with fail
    refine HB1.out.mono ?_
    rintro r w1 ⟨rfl, hw1⟩
    have e := hw1.symm
    subst e
    clear hw1
    go_wp2_with fail
    refine HB2.out.mono ?_
    rintro r w1 ⟨rfl, hw1⟩
    have e := hw1.symm
    subst e
    clear hw1
    go_wp2_with fail
    refine HS1.out.mono ?_
    rintro r w1 ⟨x, rfl, hx, hb1⟩
    have HX := Lib.hid hx
    have HW1 := Lib.hid hb1
    clear hx hb1
    go_wp2_with fail
    refine (HS2.out _ HW1.out).mono ?_
    rintro r w2 ⟨y, rfl, hy, hb2⟩
    have HX2 := Lib.hid (DgAt.below HX.out hb2)
    have HY := Lib.hid hy
    have HW2 := Lib.hid (below_chain HW1.out hb2)
    clear hy hb2
    go_wp2_with fail
    refine (HC.out _ _ _ HX2.out HY.out).mono ?_
    rintro r w3 ⟨rfl, hb3⟩
    have HW3 := Lib.hid (below_chain HW2.out hb3)
    clear hb3
    go_wp2
    go_ret
    exact ⟨rfl, HW3.out⟩

/-- What Hold keeps: the number's box, its digits, those of m. -/
structure HdS (w W : World) (nv dv mv : Value) (N D m : Nat) : Prop where
  c0 : W.cell? ⟨w.heap.size, 0, none⟩ = some nv
  c1 : W.cell? ⟨w.heap.size, 1, none⟩ = some dv
  c2 : W.cell? ⟨w.heap.size, 2, none⟩ = some (.int .i64 0)
  c3 : W.cell? ⟨w.heap.size, 3, none⟩ = some (.bool false)
  dn : DgAt W nv N
  dd : DgAt W dv D
  dm : DgAt W mv m
  bl : Below w.heap.size w W
theorem HdS.below {w W W2 : World} {nv dv mv : Value} {N D m : Nat} (h : HdS w W nv dv mv N D m) (hb : Below W.heap.size W W2) : HdS w W2 nv dv mv N D m :=
  ⟨cell_kept hb h.c0, cell_kept hb h.c1, cell_kept hb h.c2, cell_kept hb h.c3, h.dn.below hb, h.dd.below hb, h.dm.below hb, below_chain h.bl hb⟩
theorem HdS.belowH {w W W2 : World} {nv dv mv : Value} {N D m : Nat} (h : Hid (HdS w W nv dv mv N D m)) (hb : Below W.heap.size W W2) : HdS w W2 nv dv mv N D m := h.out.below hb
theorem HdS.conj {w W : World} {nv dv mv : Value} {N D m : Nat} (h : HdS w W nv dv mv N D m) : W.cell? ⟨w.heap.size, 0, none⟩ = some nv ∧ W.cell? ⟨w.heap.size, 1, none⟩ = some dv ∧ W.cell? ⟨w.heap.size, 2, none⟩ = some (.int .i64 0) ∧ Hid (HdS w W nv dv mv N D m) := ⟨h.c0, h.c1, h.c2, Lib.hid h⟩
theorem hold_none {D N : Nat} {e : Int} (hN : N ≠ 0) : cmpD (0 * D * 2 ^ (e - min e 0).toNat) (N * 2 ^ (0 - min e 0).toNat) = -1 := by
  unfold cmpD
  rw [Nat.zero_mul, Nat.zero_mul, if_pos (Nat.mul_pos (by omega) (Nat.two_pow_pos _))]

set_option maxRecDepth 100000 in
set_option maxHeartbeats 2000000 in
/-- Hold: m * 2^e against the number N / D. -/
theorem hold_walk (nv dv mv : Value) (N D m : Nat) (e : Int) (w : World) (hn : DgAt w nv N) (hd : DgAt w dv D) (hm : DgAt w mv m) (hN : N ≠ 0) (hD : D ≠ 0) (b1 : blen N ≤ 59000) (b2 : blen D ≤ 59000) (b3 : blen m ≤ 60) (h1 : -2000 ≤ e) (h2 : e ≤ 2000) :
    Calls Tryz.prog 208 #[.agg #[nv, dv, .int .i64 0, .bool false], mv, .int .i64 e] w fun r w' => r = .returned (.int .i64 (cmpD (m * D * 2 ^ (e - min e 0).toNat) (N * 2 ^ (0 - min e 0).toNat))) ∧ Below w.heap.size w w' := by
  have hb0 := below_alloc' w (.cells #[nv, dv, .int .i64 0, .bool false] 215)
  have hS : HdS w (w.alloc (.cells #[nv, dv, .int .i64 0, .bool false] 215)) nv dv mv N D m :=
    ⟨by simp, by simp, by simp, by simp, hn.below hb0, hd.below hb0, hm.below hb0, hb0⟩
  have HS := Lib.hid hS
  by_cases h0 : m = 0
  · subst h0
    rw [hold_none hN]
    have HB := Lib.hid hb0
    obtain ⟨A, c, rfl, _, _, _⟩ := hm
    rw [toD_zero]
    clear hS hb0 hn hd hN hD b1 b2 b3 HS
    go_enter Tryz.func208, Tryz.ntmps208
    go_wp2
    go_ret
    exact ⟨rfl, HB.out⟩
  · have hmD : m * D ≠ 0 := Nat.mul_ne_zero h0 hD
    have hbl := blen_mul m D
    have HMu := Lib.hid (fun W (h : DgAt W mv m) (g : DgAt W dv D) => rprod_walk mv dv m D W h g (by rw [toD_length]; omega) (by rw [toD_length]; omega))
    have HOr := Lib.hid (fun W x (h : DgAt W x (m * D)) (g : DgAt W nv N) => order_walk x nv (m * D) N e W h g hmD hN (by omega) (by omega) h1 h2)
    obtain ⟨r0, hr0⟩ : ∃ r0, cmpD (m * D * 2 ^ (e - min e 0).toNat) (N * 2 ^ (0 - min e 0).toNat) = r0 := ⟨_, rfl⟩
    simp only [hr0] at HOr ⊢
    obtain ⟨p, hp⟩ : ∃ p, m * D = p := ⟨_, rfl⟩
    simp only [hp] at HOr HMu
    have hl : (toD m).length ≠ 0 := fun h => h0 ((toD_length_zero m).1 h)
    obtain ⟨A, c, rfl, hc, _, _⟩ := hm
    obtain ⟨k, hk⟩ : ∃ k, (toD m).length = k := ⟨_, rfl⟩
    rw [hk] at hl hc
    rw [hk] at HS HMu ⊢
    have hkb : ((k : Int) == 0) = false := by rw [beq_eq_false_iff_ne]; omega
    have c3 := HS.out.c3
    have HSd := Lib.hid (HS.out.below (below_draw' _))
    clear hS hb0 hn hd hN hD b1 b2 b3 hr0 hp hmD hbl h0 hk hc hl
    go_enter Tryz.func208, Tryz.ntmps208
    go_wp2_with fail
    clear c3
    go_region_held3 (fun w' => w'.cell? ⟨w.heap.size, 0, none⟩ = some nv ∧ w'.cell? ⟨w.heap.size, 1, none⟩ = some dv ∧ w'.cell? ⟨w.heap.size, 2, none⟩ = some (.int .i64 0) ∧ Hid (HdS w w' nv dv (.slice A k c) N D m))
      (first | exact HSd.out.conj | (go_split_ands; exact (HdS.belowH (by assumption) hb6).conj) | (go_split_ands; exact (HdS.belowH (by assumption) hb7).conj))
      (first
        | (go_split_ands; go_at_call 187; refine (HMu.out _ (HdS.dm (Hid.out (by assumption))) (HdS.dd (Hid.out (by assumption)))).mono ?_; rintro e w6 ⟨x6, rfl, hx6, hb6⟩; have HX6 := Lib.hid hx6; clear hx6)
        | (go_split_ands; go_at_call 225; refine (HOr.out _ _ HX6.out (HdS.dn (Hid.out (by assumption)))).mono ?_; rintro e w7 ⟨rfl, hb7⟩))
    all_goals
      have HS7 : Hid (HdS w w7 nv dv (.slice A k c) N D m) := Lib.hid (by go_split_ands; exact HdS.belowH (by assumption) hb7)
      go_wp2
      go_ret
      exact ⟨rfl, HS7.out.bl⟩
end Go.Proofs.YtmfjimmodaofdaaGreatDoor

namespace Go.Proofs.YtmfjimmodaofdaaGreatDoor
open Go.RowKit

theorem cmpD_le (x y : Nat) : (cmpD x y ≤ 0 ∧ x ≤ y) ∨ (0 < cmpD x y ∧ y < x) := by
  unfold cmpD
  split
  · left; omega
  · split
    · left; omega
    · right; omega
/-- A pattern's size against the number. -/
theorem hold_cell (f : Fm) (nv dv : Value) (N D s : Nat) (hL : f.L ≤ 0) (hL2 : -1080 ≤ f.L) (hx : f.L + (mex f s : Int) ≤ 1500) (hm : mnt f s < 2 ^ 53) (hN : N ≠ 0) (hD : D ≠ 0) (b1 : blen N ≤ 59000) (b2 : blen D ≤ 59000)
    (w : World) (mv : Value) (h : DgAt w mv (mnt f s)) (hn : DgAt w nv N) (hd : DgAt w dv D) :
    Calls Tryz.prog 208 #[.agg #[nv, dv, .int .i64 0, .bool false], mv, .int .i64 (f.L + (mex f s : Int))] w fun r w' => r = .returned (.int .i64 (cmpD (vP f s * D) (N * 2 ^ (-f.L).toNat))) ∧ Below w.heap.size w w' := by
  have := hold_walk nv dv mv N D (mnt f s) (f.L + (mex f s : Int)) w hn hd h hN hD b1 b2 (Nat.le_trans (blen_le.2 hm) (by omega)) (by omega) (by omega)
  rw [hold_units hL rfl, ← vP_mnt] at this
  exact this
/-- The midpoint above it. -/
theorem hold_mid (f : Fm) (nv dv : Value) (N D s : Nat) (hL : f.L ≤ 0) (hL2 : -1080 ≤ f.L) (hx : f.L + (mex f s : Int) ≤ 1500) (hm : mnt f s < 2 ^ 53) (hN : N ≠ 0) (hD : D ≠ 0) (b1 : blen N ≤ 59000) (b2 : blen D ≤ 59000)
    (w : World) (mv : Value) (h : DgAt w mv (mnt f s * 2 ^ 1 + 1)) (hn : DgAt w nv N) (hd : DgAt w dv D) :
    Calls Tryz.prog 208 #[.agg #[nv, dv, .int .i64 0, .bool false], mv, .int .i64 (f.L + (mex f s : Int) - 1)] w fun r w' => r = .returned (.int .i64 (cmpD (md f s * D) (N * 2 ^ (1 - f.L).toNat))) ∧ Below w.heap.size w w' := by
  have hb : blen (mnt f s * 2 ^ 1 + 1) ≤ 54 := blen_le.2 (by rw [show (2 : Nat) ^ 54 = 2 ^ 53 * 2 by decide]; omega)
  have := hold_walk nv dv mv N D (mnt f s * 2 ^ 1 + 1) (f.L + (mex f s : Int) - 1) w hn hd h hN hD b1 b2 (by omega) (by omega) (by omega)
  rw [hold_units (L := f.L - 1) (x := mex f s) (by omega) (by omega), show mnt f s * 2 ^ 1 + 1 = 2 * mnt f s + 1 by omega, ← md_mnt, show -(f.L - 1) = 1 - f.L by omega] at this
  exact this

/-- What Size keeps: the format's box, the number's. -/
structure SzS (w W : World) (sg P L G I Q : Int) (nv dv : Value) (N D : Nat) : Prop where
  x0 : W.cell? ⟨w.heap.size, 0, none⟩ = some (.int .u64 sg)
  x1 : W.cell? ⟨w.heap.size, 1, none⟩ = some (.int .i64 P)
  x2 : W.cell? ⟨w.heap.size, 2, none⟩ = some (.int .i64 L)
  x3 : W.cell? ⟨w.heap.size, 3, none⟩ = some (.int .i64 G)
  x4 : W.cell? ⟨w.heap.size, 4, none⟩ = some (.int .u64 I)
  x5 : W.cell? ⟨w.heap.size, 5, none⟩ = some (.int .u64 Q)
  c0 : W.cell? ⟨w.heap.size + 1, 0, none⟩ = some nv
  c1 : W.cell? ⟨w.heap.size + 1, 1, none⟩ = some dv
  c2 : W.cell? ⟨w.heap.size + 1, 2, none⟩ = some (.int .i64 0)
  c3 : W.cell? ⟨w.heap.size + 1, 3, none⟩ = some (.bool false)
  dn : DgAt W nv N
  dd : DgAt W dv D
  bl : Below w.heap.size w W
theorem SzS.below {w W W2 : World} {sg P L G I Q : Int} {nv dv : Value} {N D : Nat} (h : SzS w W sg P L G I Q nv dv N D) (hb : Below W.heap.size W W2) : SzS w W2 sg P L G I Q nv dv N D :=
  ⟨cell_kept hb h.x0, cell_kept hb h.x1, cell_kept hb h.x2, cell_kept hb h.x3, cell_kept hb h.x4, cell_kept hb h.x5, cell_kept hb h.c0, cell_kept hb h.c1, cell_kept hb h.c2, cell_kept hb h.c3, h.dn.below hb, h.dd.below hb, below_chain h.bl hb⟩
theorem SzS.belowH {w W W2 : World} {sg P L G I Q : Int} {nv dv : Value} {N D : Nat} (h : Hid (SzS w W sg P L G I Q nv dv N D)) (hb : Below W.heap.size W W2) : SzS w W2 sg P L G I Q nv dv N D := h.out.below hb
theorem SzS.conj {w W : World} {sg P L G I Q : Int} {nv dv : Value} {N D : Nat} (h : SzS w W sg P L G I Q nv dv N D) : W.cell? ⟨w.heap.size + 1, 0, none⟩ = some nv ∧ W.cell? ⟨w.heap.size + 1, 1, none⟩ = some dv ∧ W.cell? ⟨w.heap.size + 1, 2, none⟩ = some (.int .i64 0) ∧ W.cell? ⟨w.heap.size + 1, 3, none⟩ = some (.bool false) ∧ Hid (SzS w W sg P L G I Q nv dv N D) := ⟨h.c0, h.c1, h.c2, h.c3, Lib.hid h⟩
/-- What the search knows: a is at most the number, b is above it (or the infinity's next). -/
def SzI (f : Fm) (N D a b : Nat) : Prop := a < b ∧ b ≤ f.inf + 1 ∧ vP f a * D ≤ N * 2 ^ (-f.L).toNat ∧ (b ≤ f.inf → N * 2 ^ (-f.L).toNat < vP f b * D)

set_option maxRecDepth 100000 in
set_option maxHeartbeats 4000000 in
theorem rsize8_gen (f : Fm) (sg P L G I Q : Int) (hI : (f.inf : Int) = I) (hI2 : f.inf < 9223372036854775807) (hL : f.L ≤ 0) (hL2 : -1080 ≤ f.L) (hx : ∀ s, s ≤ f.inf → f.L + (mex f s : Int) ≤ 1500 ∧ mnt f s < 2 ^ 53)
    (hPa : ∀ s w, s ≤ f.inf → Calls Tryz.prog 182 #[.agg #[.int .u64 sg, .int .i64 P, .int .i64 L, .int .i64 G, .int .u64 I, .int .u64 Q], .int .u64 (s : Int)] w fun e w' => e = .returned (.tuple #[.int .u64 ((mnt f s : Nat) : Int), .int .i64 (f.L + (mex f s : Int))]) ∧ Below w.heap.size w w')
    (nv dv : Value) (N D : Nat) (w : World) (hn : DgAt w nv N) (hd : DgAt w dv D) (hN : N ≠ 0) (hD : D ≠ 0) (b1 : blen N ≤ 59000) (b2 : blen D ≤ 59000) :
    Calls Tryz.prog 176 #[.agg #[.int .u64 sg, .int .i64 P, .int .i64 L, .int .i64 G, .int .u64 I, .int .u64 Q], .agg #[nv, dv, .int .i64 0, .bool false]] w fun r w' => ∃ p : Nat, r = .returned (.int .u64 (p : Int)) ∧ IsPat f N D p ∧ p ≤ f.inf ∧ Below w.heap.size w w' := by
  have hb0 := below_chain (below_alloc' w (.cells #[.int .u64 sg, .int .i64 P, .int .i64 L, .int .i64 G, .int .u64 I, .int .u64 Q] 122)) (below_alloc' _ (.cells #[nv, dv, .int .i64 0, .bool false] 215))
  have hS : SzS w ((w.alloc (.cells #[.int .u64 sg, .int .i64 P, .int .i64 L, .int .i64 G, .int .u64 I, .int .u64 Q] 122)).alloc (.cells #[nv, dv, .int .i64 0, .bool false] 215)) sg P L G I Q nv dv N D :=
    ⟨by simp [go_sem], by simp [go_sem], by simp [go_sem], by simp [go_sem], by simp [go_sem], by simp [go_sem], by simp [go_sem], by simp [go_sem], by simp [go_sem], by simp [go_sem], hn.below hb0, hd.below hb0, hb0⟩
  have HS := Lib.hid hS
  have HHo := Lib.hid (fun s (hs : s ≤ f.inf) W mv h g k => hold_cell f nv dv N D s hL hL2 (hx s hs).1 (hx s hs).2 hN hD b1 b2 W mv h g k)
  have HHm := Lib.hid (fun s (hs : s ≤ f.inf) W mv h g k => hold_mid f nv dv N D s hL hL2 (hx s hs).1 (hx s hs).2 hN hD b1 b2 W mv h g k)
  have HWo := Lib.hid (fun s (hs : s ≤ f.inf) W => rword_walk (mnt f s) (Nat.lt_of_lt_of_le (hx s hs).2 (by decide)) W)
  have HW1 := Lib.hid (fun W => rword_walk 1 (by decide) W)
  have HSh := Lib.hid (fun s (hs : s ≤ f.inf) v W (h : DgAt W v (mnt f s)) => rshl_walk v (mnt f s) 1 W h (by omega) (by omega) (by rw [toD_length]; have := blen_le.2 (hx s hs).2; omega))
  have HAd := Lib.hid (fun s (hs : s ≤ f.inf) v u W (h : DgAt W v (mnt f s * 2 ^ 1)) (g : DgAt W u 1) => radd_walk v u (mnt f s * 2 ^ 1) 1 W h g (by rw [toD_length]; have := blen_le.2 (show mnt f s * 2 ^ 1 < 2 ^ 54 by rw [show (2 : Nat) ^ 54 = 2 ^ 53 * 2 by decide]; have := (hx s hs).2; omega); omega) (by rw [toD_length, show blen 1 = 1 by decide]; omega))
  have HPa := Lib.hid hPa
  have HXb := Lib.hid (fun s (hs : s ≤ f.inf) => show -1080 ≤ f.L + (mex f s : Int) ∧ f.L + (mex f s : Int) ≤ 1500 from ⟨by omega, (hx s hs).1⟩)
  have HZ := Lib.hid (show SzI f N D 0 (f.inf + 1) from ⟨by omega, by omega, by rw [show vP f 0 = 0 from by unfold vP; rw [if_pos (Nat.two_pow_pos _)]]; omega, fun h => by omega⟩)
  have HEnd := Lib.hid (fun a b (h : SzI f N D a b) (hab : b ≤ a + 1) => size_pat (f := f) hL (N := N) (D := D) (lo := a) (by omega) h.2.2.1 (by have := h.1; have := h.2.1; omega) (fun hlt => (show b = a + 1 from Nat.le_antisymm hab h.1) ▸ h.2.2.2 (by have := h.1; omega)))
  have p1 : IntKind.u64.wrap (I + 1) = I + 1 := by rw [IntKind.wrap_u64]; omega
  have HI := Lib.hid (show (f.inf : Int) = I ∧ f.inf < 9223372036854775807 from ⟨hI, hI2⟩)
  have x4 := hS.x4
  obtain ⟨w0, hw0⟩ : ∃ w0, ((w.alloc (.cells #[.int .u64 sg, .int .i64 P, .int .i64 L, .int .i64 G, .int .u64 I, .int .u64 Q] 122)).alloc (.cells #[nv, dv, .int .i64 0, .bool false] 215)) = w0 := ⟨_, rfl⟩
  clear hb0 hS hn hd hN hD b1 b2 hPa hx hL hL2 hI hI2
  go_enter Tryz.func176, Tryz.ntmps176
  go_wp2_with fail
  rw [hw0] at HS x4
  clear hw0
  go_quiet (fail)
  go_wp2_with fail
  have HS1 := Lib.hid (HS.out.below (below_dn (Below.refl _ _) nq))
  clear x4 p1
  go_loopw [5, 6] (fun lo hi wr => ∃ a b : Nat, lo = .int .u64 (a : Int) ∧ hi = .int .u64 (b : Int) ∧ Hid (SzI f N D a b) ∧ Hid (SzS w wr sg P L G I Q nv dv N D)) (fun lo hi _ => (intOf hi - intOf lo).toNat)
  case atStart => exact ⟨0, f.inf + 1, rfl, by have := HI.out.1; rw [← this]; rfl, HZ, HS1⟩
  case round =>
    obtain ⟨a, b, rfl, rfl, HV, HK⟩ := hrel
    have hab := HV.out.1
    have hbi := HV.out.2.1
    have hi2 := HI.out.2
    obtain ⟨d, hd⟩ : ∃ d, b - a = d := ⟨_, rfl⟩
    have q1 : IntKind.u64.wrap ((b : Int) - (a : Int)) = (d : Int) := by rw [IntKind.wrap_u64]; omega
    by_cases h1 : 1 < d
    · obtain ⟨s, hs⟩ : ∃ s, a + d / 2 = s := ⟨_, rfl⟩
      have q2 : (d : Int).tdiv 2 = ((d / 2 : Nat) : Int) := by rw [Int.tdiv_eq_ediv_of_nonneg (by omega)]; omega
      have q3 : IntKind.u64.wrap ((d / 2 : Nat) : Int) = ((d / 2 : Nat) : Int) := by rw [IntKind.wrap_u64]; omega
      have q4 : IntKind.u64.wrap ((a : Int) + ((d / 2 : Nat) : Int)) = (s : Int) := by rw [IntKind.wrap_u64]; omega
      have hsi : s ≤ f.inf := by omega
      have has : a < s ∧ s < b := by omega
      have HAs := Lib.hid has
      have hPs := fun W => HPa.out s W hsi
      have hWs := fun W => HWo.out s hsi W
      have hHs := fun W mv h g k => HHo.out s hsi W mv h g k
      have hc := cmpD_le (vP f s * D) (N * 2 ^ (-f.L).toNat)
      obtain ⟨c, hce⟩ : ∃ c, cmpD (vP f s * D) (N * 2 ^ (-f.L).toNat) = c := ⟨_, rfl⟩
      rw [hce] at hc
      simp only [hce] at hHs
      have HC : Hid ((c ≤ 0 ∧ SzI f N D s b) ∨ (¬ c ≤ 0 ∧ SzI f N D a s)) := Lib.hid (by
        rcases hc with ⟨c1, c2⟩ | ⟨c1, c2⟩
        · exact .inl ⟨c1, has.2, hbi, c2, HV.out.2.2.2⟩
        · exact .inr ⟨by omega, has.1, by omega, HV.out.2.2.1, fun _ => c2⟩)
      obtain ⟨m, hm⟩ : ∃ m, mnt f s = m := ⟨_, rfl⟩
      obtain ⟨x, hx⟩ : ∃ x : Int, f.L + (mex f s : Int) = x := ⟨_, rfl⟩
      rw [hm] at hWs hHs
      rw [hx] at hHs
      simp only [hm, hx] at hPs
      have HPs := Lib.hid hPs
      have HWs := Lib.hid hWs
      have HHs := Lib.hid hHs
      obtain ⟨hf, hhf⟩ : ∃ hf : Int, ((d / 2 : Nat) : Int) = hf := ⟨_, rfl⟩
      rw [hhf] at q2 q3 q4
      have g1 : (1 : Int) < (d : Int) := by omega
      have x0 := HK.out.x0
      have x1 := HK.out.x1
      have x2 := HK.out.x2
      have x3 := HK.out.x3
      have x4 := HK.out.x4
      have x5 := HK.out.x5
      have HD := Lib.hid (show b - a = d from hd)
      clear hab hbi hi2 hd h1 hs hsi has hPs hWs hHs hc hce hm hx hhf
      go_wp2_with fail
      refine (HPs.out _).mono ?_
      rintro r w1 ⟨rfl, hb1⟩
      have HK1 := Lib.hid (HK.out.below hb1)
      have HKd := Lib.hid (HK1.out.below (below_draw' w1))
      clear hb1 x0 x1 x2 x3 x4 x5 HK q1 q2 q3 q4 g1
      go_wp2_with fail
      go_region_held3 (fun w' => w'.cell? ⟨w.heap.size + 1, 0, none⟩ = some nv ∧ w'.cell? ⟨w.heap.size + 1, 1, none⟩ = some dv ∧ w'.cell? ⟨w.heap.size + 1, 2, none⟩ = some (.int .i64 0) ∧ w'.cell? ⟨w.heap.size + 1, 3, none⟩ = some (.bool false) ∧ Hid (SzS w w' sg P L G I Q nv dv N D))
        (first | exact HKd.out.conj | (go_split_ands; exact (SzS.belowH (by assumption) hb6).conj) | (go_split_ands; exact (SzS.belowH (by assumption) hb7).conj))
        (first
          | (go_split_ands; go_at_call 179; refine (HWs.out _).mono ?_; rintro e w6 ⟨x6, rfl, hx6, hb6⟩; have HX6 := Lib.hid hx6; clear hx6)
          | (go_split_ands; go_at_call 208; refine (HHs.out _ _ HX6.out (SzS.dn (Hid.out (by assumption))) (SzS.dd (Hid.out (by assumption)))).mono ?_; rintro e w7 ⟨rfl, hb7⟩))
      all_goals
        have HK7 : Hid (SzS w w7 sg P L G I Q nv dv N D) := Lib.hid (by go_split_ands; exact SzS.belowH (by assumption) hb7)
        clear hb6 hb7
        rcases HC.out with ⟨c1, c2⟩ | ⟨c1, c2⟩
        · have HV2 := Lib.hid c2
          clear c2
          go_wp2_with fail
          go_roundw
          case rel => exact ⟨s, b, rfl, rfl, HV2, HK7⟩
          case measure => have := HAs.out; simp [intOf]; omega
        · have HV2 := Lib.hid c2
          clear c2
          go_wp2_with fail
          go_roundw
          case rel => exact ⟨a, s, rfl, rfl, HV2, HK7⟩
          case measure => have := HAs.out; simp [intOf]; omega
    · have hEnd := HEnd.out a b HV.out (by omega)
      have g1 : ¬ (1 : Int) < (d : Int) := by omega
      have x4 := HK.out.x4
      have hai : a ≤ f.inf := by omega
      by_cases ha : a = f.inf
      · rw [if_pos ha] at hEnd
        have e1 : ((a : Int) == I) = true := by rw [beq_iff_eq, ha]; exact HI.out.1
        have HEn := Lib.hid (show IsPat f N D a ∧ a ≤ f.inf from ⟨by rw [ha]; exact hEnd, hai⟩)
        clear hab hbi hi2 hd h1 hEnd hai ha
        go_wp2
        go_ret
        exact ⟨a, rfl, HEn.out.1, HEn.out.2, HK.out.bl⟩
      · rw [if_neg ha] at hEnd
        have e1 : ((a : Int) == I) = false := by rw [beq_eq_false_iff_ne]; have := HI.out.1; omega
        have hPs := fun W => HPa.out a W hai
        have hWs := fun W => HWo.out a hai W
        have hShs := fun v W h => HSh.out a hai v W h
        have hAs := fun v u W h g => HAd.out a hai v u W h g
        have hHs := fun W mv h g k => HHm.out a hai W mv h g k
        unfold szUp at hEnd
        obtain ⟨c, hce⟩ : ∃ c, cmpD (md f a * D) (N * 2 ^ (1 - f.L).toNat) = c := ⟨_, rfl⟩
        rw [hce] at hEnd
        simp only [hce] at hHs
        obtain ⟨m, hm⟩ : ∃ m, mnt f a = m := ⟨_, rfl⟩
        have hXb := HXb.out a hai
        obtain ⟨x, hx⟩ : ∃ x : Int, f.L + (mex f a : Int) = x := ⟨_, rfl⟩
        rw [hx] at hXb
        simp only [hm, hx] at hPs hWs hShs hAs hHs
        rw [show (1 : Int).toNat = 1 from rfl] at hShs
        obtain ⟨m2, hm2⟩ : ∃ m2, m * 2 ^ 1 = m2 := ⟨_, rfl⟩
        simp only [hm2] at hShs hAs hHs
        obtain ⟨m3, hm3⟩ : ∃ m3, m2 + 1 = m3 := ⟨_, rfl⟩
        simp only [hm3] at hAs hHs
        obtain ⟨y, hy⟩ : ∃ y : Int, x - 1 = y := ⟨_, rfl⟩
        simp only [hy] at hHs
        have q1 : IntKind.i64.wrap (x - 1) = y := by
          rw [IntKind.wrap_i64]; have := hXb; omega
        have HPs := Lib.hid hPs
        have HWs := Lib.hid hWs
        have HSs := Lib.hid hShs
        have HAs := Lib.hid hAs
        have HHs := Lib.hid hHs
        have HEn := Lib.hid (show IsPat f N D (a + if c < 0 ∨ (c = 0 ∧ a % 2 = 1) then 1 else 0) ∧ a + 1 ≤ f.inf ∧ f.inf < 9223372036854775807 from ⟨hEnd, by omega, hi2⟩)
        have x0 := HK.out.x0
        have x1 := HK.out.x1
        have x2 := HK.out.x2
        have x3 := HK.out.x3
        have x5 := HK.out.x5
        clear hXb hab hbi hi2 hd h1 hPs hWs hShs hAs hHs hce hm hx hm2 hm3 hy hEnd ha hai
        go_wp2_with fail
        refine (HPs.out _).mono ?_
        rintro r w1 ⟨rfl, hb1⟩
        have HK1 := Lib.hid (HK.out.below hb1)
        have HKd := Lib.hid (HK1.out.below (below_draw' w1))
        clear hb1 x0 x1 x2 x3 x4 x5 HK e1 g1
        go_wp2_with fail
        go_region_held3 (fun w' => w'.cell? ⟨w.heap.size + 1, 0, none⟩ = some nv ∧ w'.cell? ⟨w.heap.size + 1, 1, none⟩ = some dv ∧ w'.cell? ⟨w.heap.size + 1, 2, none⟩ = some (.int .i64 0) ∧ w'.cell? ⟨w.heap.size + 1, 3, none⟩ = some (.bool false) ∧ Hid (SzS w w' sg P L G I Q nv dv N D))
          (first | exact HKd.out.conj | (go_split_ands; exact (SzS.belowH (by assumption) hb10).conj) | (go_split_ands; exact (SzS.belowH (by assumption) hb9).conj) | (go_split_ands; exact (SzS.belowH (by assumption) hb8).conj) | (go_split_ands; exact (SzS.belowH (by assumption) hb7).conj) | (go_split_ands; exact (SzS.belowH (by assumption) hb6).conj))
          (first
            | (have _h7 := HX7; clear _h7; go_split_ands; go_at_call 179; refine (HW1.out _).mono ?_; rintro e w8 ⟨x8, rfl, hx8, hb8⟩; have HX8 := Lib.hid hx8; have HX78 := Lib.hid (HX7.out.below hb8); clear hx8)
            | (go_split_ands; go_at_call 179; refine (HWs.out _).mono ?_; rintro e w6 ⟨x6, rfl, hx6, hb6⟩; have HX6 := Lib.hid hx6; clear hx6)
            | (go_split_ands; go_at_call 184; refine (HSs.out _ _ HX6.out).mono ?_; rintro e w7 ⟨x7, rfl, hx7, hb7⟩; have HX7 := Lib.hid hx7; clear hx7)
            | (go_split_ands; go_at_call 178; refine (HAs.out _ _ _ HX78.out HX8.out).mono ?_; rintro e w9 ⟨x9, rfl, hx9, hb9⟩; have HX9 := Lib.hid hx9; clear hx9)
            | (go_split_ands; go_at_call 208; refine (HHs.out _ _ HX9.out (SzS.dn (Hid.out (by assumption))) (SzS.dd (Hid.out (by assumption)))).mono ?_; rintro e w10 ⟨rfl, hb10⟩))
        all_goals
          have HK7 : Hid (SzS w w10 sg P L G I Q nv dv N D) := Lib.hid (by go_split_ands; exact SzS.belowH (by assumption) hb10)
          clear hb6 hb7 hb8 hb9 hb10 HX6 HX7 HX8 HX78 HX9
          have hEn := HEn.out
          by_cases g1 : c < 0
          · have HR := Lib.hid (show IsPat f N D (a + 1) by rw [if_pos (.inl g1)] at hEn; exact hEn.1)
            have p4 : IntKind.u64.wrap ((a : Int) + 1) = (a : Int) + 1 := by rw [IntKind.wrap_u64]; omega
            clear hEn
            go_wp2
            go_ret
            exact ⟨a + 1, rfl, HR.out, HEn.out.2.1, HK7.out.bl⟩
          by_cases g2 : c = 0
          · subst g2
            by_cases g3 : a % 2 = 1
            · have HR := Lib.hid (show IsPat f N D (a + 1) by rw [if_pos (.inr ⟨rfl, g3⟩)] at hEn; exact hEn.1)
              have p4 : IntKind.u64.wrap ((a : Int) + 1) = (a : Int) + 1 := by rw [IntKind.wrap_u64]; omega
              have e1 : (a : Int) % 2 = 1 := by omega
              have e2 : (a : Int).tmod 2 = 1 := by rw [Int.tmod_eq_emod_of_nonneg (by omega)]; exact e1
              clear hEn g1 g3
              go_wp2
              go_ret
              exact ⟨a + 1, rfl, HR.out, HEn.out.2.1, HK7.out.bl⟩
            · have HR := Lib.hid (show IsPat f N D a by rw [if_neg (fun h => h.elim g1 (fun h => g3 h.2))] at hEn; exact hEn.1)
              have e1 : (a : Int) % 2 = 0 := by omega
              have e2 : (a : Int).tmod 2 = 0 := by rw [Int.tmod_eq_emod_of_nonneg (by omega)]; exact e1
              clear hEn g1 g3
              go_wp2
              go_ret
              exact ⟨a, rfl, HR.out, by have := HEn.out.2.1; omega, HK7.out.bl⟩
          · have HR := Lib.hid (show IsPat f N D a by rw [if_neg (fun h => h.elim g1 (fun h => g2 h.1))] at hEn; exact hEn.1)
            have e0 : (c == 0) = false := by rw [beq_eq_false_iff_ne]; exact g2
            clear hEn
            go_wp2
            go_ret
            exact ⟨a, rfl, HR.out, by have := HEn.out.2.1; omega, HK7.out.bl⟩

theorem rsize8_S (nv dv : Value) (N D : Nat) (w : World) (hn : DgAt w nv N) (hd : DgAt w dv D) (hN : N ≠ 0) (hD : D ≠ 0) (b1 : blen N ≤ 59000) (b2 : blen D ≤ 59000) :
    Calls Tryz.prog 176 #[.agg #[.int .u64 2147483648, .int .i64 24, .int .i64 (-149), .int .i64 104, .int .u64 2139095040, .int .u64 2143289345], .agg #[nv, dv, .int .i64 0, .bool false]] w fun r w' => ∃ p : Nat, r = .returned (.int .u64 (p : Int)) ∧ IsPat fmS N D p ∧ p ≤ fmS.inf ∧ Below w.heap.size w w' := by
  have hi : fmS.inf = 2139095040 := by decide
  have hl : fmS.L = -149 := rfl
  refine rsize8_gen fmS _ _ _ _ _ _ (by rw [hi]; rfl) (by rw [hi]; omega) (by rw [hl]; omega) (by rw [hl]; omega) (fun s hs => ?_) (fun s w hs => ?_) nv dv N D w hn hd hN hD b1 b2
  · rw [hi] at hs
    refine ⟨?_, Nat.lt_of_lt_of_le (mnt_lt (by decide) s) (by decide)⟩
    have : mex fmS s ≤ 254 := by
      unfold mex
      rw [show 2 ^ (fmS.P - 1) = 8388608 from rfl]
      split <;> omega
    rw [hl]; omega
  · rw [hi] at hs
    have := rparts_S s (by omega) w
    rw [(pt_S s).1, (pt_S s).2] at this
    exact this

theorem rsize8_D (nv dv : Value) (N D : Nat) (w : World) (hn : DgAt w nv N) (hd : DgAt w dv D) (hN : N ≠ 0) (hD : D ≠ 0) (b1 : blen N ≤ 59000) (b2 : blen D ≤ 59000) :
    Calls Tryz.prog 176 #[.agg #[.int .u64 9223372036854775808, .int .i64 53, .int .i64 (-1074), .int .i64 971, .int .u64 9218868437227405312, .int .u64 9221120237041090561], .agg #[nv, dv, .int .i64 0, .bool false]] w fun r w' => ∃ p : Nat, r = .returned (.int .u64 (p : Int)) ∧ IsPat fmD N D p ∧ p ≤ fmD.inf ∧ Below w.heap.size w w' := by
  have hi : fmD.inf = 9218868437227405312 := by decide
  have hl : fmD.L = -1074 := rfl
  refine rsize8_gen fmD _ _ _ _ _ _ (by rw [hi]; rfl) (by rw [hi]; omega) (by rw [hl]; omega) (by rw [hl]; omega) (fun s hs => ?_) (fun s w hs => ?_) nv dv N D w hn hd hN hD b1 b2
  · rw [hi] at hs
    refine ⟨?_, Nat.lt_of_lt_of_le (mnt_lt (by decide) s) (by decide)⟩
    have : mex fmD s ≤ 2046 := by
      unfold mex
      rw [show 2 ^ (fmD.P - 1) = 4503599627370496 from rfl]
      split <;> omega
    rw [hl]; omega
  · rw [hi] at hs
    have := rparts_D s (by omega) w
    rw [(pt_D s).1, (pt_D s).2] at this
    exact this
end Go.Proofs.YtmfjimmodaofdaaGreatDoor
