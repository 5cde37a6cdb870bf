/- Walk of gnomonref07: Whole, at any numbers of a format. · Walk of gnomonref07: Hold (printed by gen_hold.py). · Walk of gnomonref10: Round, at any numbers of a format. · Walks of gnomonref10: Round, of both formats (printed by gen_rnd2.py). · Walk of gnomonref10: DocParse (printed by gen_doc.py). · The walk of HexfloatParses. -/
import Derived.Test.YtooehlneoboenaaGreatDoorVt
import Derived.Deep.RegionHeld3
import Derived.Test.YtooehlneoboenaaGreatDoorVo
import Derived.Deep.DeepCutAuto
import Derived.Test.YtooehlneoboenaaGreatDoorV5
import Derived.Test.YtooehlneoboenaaGreatDoorTk
import Derived.Test.YtooehlneoboenaaGreatDoorLa
namespace Go.Proofs.YtooehlneoboenaaGreatDoor
open Go.RowKit

set_option maxRecDepth 100000 in
set_option maxHeartbeats 1000000 in
theorem rwhole_gen (sg P L G I Q : Int) (s m d : Nat) (x : Int)
    (hC3 : ∀ w, Calls Tryz.prog 25 #[.agg #[.int .u64 sg, .int .i64 P, .int .i64 L, .int .i64 G, .int .u64 I, .int .u64 Q], .int .u64 (s : Int)] w fun e w' => e = .returned (.tuple #[.bool false, .int .u64 (s : Int)]) ∧ Below w.heap.size w w')
    (hC4 : ∀ w, Calls Tryz.prog 26 #[.agg #[.int .u64 sg, .int .i64 P, .int .i64 L, .int .i64 G, .int .u64 I, .int .u64 Q], .int .u64 (s : Int)] w fun e w' => e = .returned (.tuple #[.int .u64 (m : Int), .int .i64 x]) ∧ Below w.heap.size w w')
    (hd : x - L = (d : Int)) (hd2 : d ≤ 2200) (hm : blen m ≤ 53) (w : World) :
    Calls Tryz.prog 49 #[.agg #[.int .u64 sg, .int .i64 P, .int .i64 L, .int .i64 G, .int .u64 I, .int .u64 Q], .int .u64 (s : Int)] w fun e w' => ∃ v', e = .returned v' ∧ ZAt w' v' false (m * 2 ^ d) ∧ Below w.heap.size w w' := by
  have p1 : IntKind.i64.wrap (x - L) = (d : Int) := by rw [IntKind.wrap_i64]; omega
  have hm64 : m < 18446744073709551616 := Nat.lt_of_lt_of_le (blen_le.1 hm) (by decide)
  have HWo := Lib.hid (fun w => rword_walk m hm64 w)
  have hSh := fun v w (h : Hid (DgAt w v m)) => rshl_walk v m (d : Int) w h.out (by omega) (by omega) (Nat.le_trans (tdl2 (k := 2) (by omega)) (by omega))
  have hlen : (toD (m * 2 ^ d)).length ≤ 100 := by
    by_cases h0 : m = 0
    · subst h0; rw [Nat.zero_mul, (toD_length_zero 0).2 rfl]; omega
    · exact tdl2 (by rw [blen_mul_pow h0]; omega)
  simp only [Int.toNat_natCast] at hSh
  obtain ⟨p, hp⟩ : ∃ p, m * 2 ^ d = p := ⟨_, rfl⟩
  simp only [hp] at hSh hlen ⊢
  have HSh := Lib.hid hSh
  have HMk := Lib.hid (fun W x hx => rmk_open false p (fun h => by cases h) (by omega) W x hx)
  have C3 := Lib.hid hC3
  have C4 := Lib.hid hC4
  have hw1 := below_alloc' w (.cells #[.int .u64 sg, .int .i64 P, .int .i64 L, .int .i64 G, .int .u64 I, .int .u64 Q] 58)
  have hw2 := below_chain hw1 (below_alloc' (w.alloc (.cells #[.int .u64 sg, .int .i64 P, .int .i64 L, .int .i64 G, .int .u64 I, .int .u64 Q] 58)) (.cells #[.bool false, .slice none 0 0] 94))
  have HW0 := Lib.hid hw2
  have hB4 := box2_new (w.alloc (.cells #[.int .u64 sg, .int .i64 P, .int .i64 L, .int .i64 G, .int .u64 I, .int .u64 Q] 58)) (.bool false) (.slice none 0 0) 94
  rw [show (w.alloc (.cells #[.int .u64 sg, .int .i64 P, .int .i64 L, .int .i64 G, .int .u64 I, .int .u64 Q] 58)).heap.size = w.heap.size + 1 by simp] at hB4
  have HB0 := Lib.hid hB4
  clear hC3 hC4 hd hm hm64 hSh hlen hp hd2 hw1 hw2 hB4
  go_enter Tryz.func49, Tryz.ntmps49
  go_wp2_with fail
  refine (C3.out _).mono ?_
  rintro e w1 ⟨rfl, hb1⟩
  have x0 : w1.cell? ⟨w.heap.size, 0, none⟩ = some (.int .u64 sg) := cell_kept hb1 (by simp)
  have x1 : w1.cell? ⟨w.heap.size, 1, none⟩ = some (.int .i64 P) := cell_kept hb1 (by simp)
  have x2 : w1.cell? ⟨w.heap.size, 2, none⟩ = some (.int .i64 L) := cell_kept hb1 (by simp)
  have x3 : w1.cell? ⟨w.heap.size, 3, none⟩ = some (.int .i64 G) := cell_kept hb1 (by simp)
  have x4 : w1.cell? ⟨w.heap.size, 4, none⟩ = some (.int .u64 I) := cell_kept hb1 (by simp)
  have x5 : w1.cell? ⟨w.heap.size, 5, none⟩ = some (.int .u64 Q) := cell_kept hb1 (by simp)
  have HW1 := Lib.hid (below_chain HW0.out hb1)
  have HB1 := Lib.hid (HB0.out.below hb1)
  clear hb1
  go_wp2_with fail
  refine (C4.out _).mono ?_
  rintro e w2 ⟨rfl, hb2⟩
  have y2 : w2.cell? ⟨w.heap.size, 2, none⟩ = some (.int .i64 L) := cell_kept hb2 x2
  have HY2 := Lib.hid y2
  have HW2 := Lib.hid (below_chain HW1.out hb2).drew
  have HB2 := Lib.hid ((HB1.out.below hb2).below (below_dn (Below.refl _ _) 1))
  clear hb2 x0 x1 x2 x3 x4 x5 C3 C4 HW0 HW1 HB0 HB1
  go_wp2_with fail
  go_region_with (first
    | (go_at_call 28; refine (HWo.out _).mono ?_; rintro e w3 ⟨v3, rfl, hd3, hb3⟩; have HD3 := Lib.hid hd3; have HW3 := Lib.hid (below_chain HW2.out hb3); have HB3 := Lib.hid (HB2.out.below hb3); have y3 : w3.cell? ⟨w.heap.size, 2, none⟩ = some (.int .i64 L) := cell_kept hb3 (by simpa using HY2.out); clear hd3 hb3)
    | (go_at_call 45; refine (HSh.out _ _ HD3).mono ?_; rintro e w5 ⟨v5, rfl, hd5, hb5⟩; have HD5 := Lib.hid hd5; have HW5 := Lib.hid (below_chain HW3.out hb5); have HB5 := Lib.hid (HB3.out.below hb5); clear hd5 hb5)
    | (go_at_call 51; refine (HMk.out _ _ HD5).mono ?_; rintro e w6 ⟨s6, rfl, hd6, hb6⟩; have HD6 := Lib.hid hd6; have HW6 := Lib.hid (below_chain HW5.out hb6); have HB6 := Lib.hid (HB5.out.below hb6); obtain ⟨g0, g1, f0, f1, f2⟩ := HB6.out; obtain ⟨A6, c6, rfl, hx1, hx2, hx3⟩ := hd6; clear hb6 hx1 hx2 hx3))
  all_goals
    go_wp2
    obtain ⟨r0, r1⟩ := two_set HB6.out (.bool false) (.slice A6 (toD p).length c6)
    refine bodyPost_ret (v := .agg #[.bool false, .slice A6 (toD p).length c6]) (by simp [results, Tryz.results49, go_sem, r0, r1]) rfl ⟨_, rfl, ⟨_, rfl, HD6.out.two HB6.out _ _⟩, ?_⟩
    exact below_two HW6.out (by omega) _ _
end Go.Proofs.YtooehlneoboenaaGreatDoor

namespace Go.Proofs.YtooehlneoboenaaGreatDoor
open Go.RowKit

theorem cm_cmp (a b : Nat) : cmpI a b = cm a b := rfl
structure HoldS (w w' : World) (A A' : Option Addr) (n n' c c' a b : Nat) : Prop where
  x0 : w'.cell? ⟨w.heap.size, 0, none⟩ = some (.bool false)
  x1 : w'.cell? ⟨w.heap.size, 1, none⟩ = some (.slice A n c)
  y0 : w'.cell? ⟨w.heap.size + 1, 0, none⟩ = some (.bool false)
  y1 : w'.cell? ⟨w.heap.size + 1, 1, none⟩ = some (.slice A' n' c')
  da : DgAt w' (.slice A n c) a
  db : DgAt w' (.slice A' n' c') b
  bl : RowKit.Below w.heap.size w w'
theorem HoldS.below {w w' w'' : World} {A A' : Option Addr} {n n' c c' a b : Nat} (h : HoldS w w' A A' n n' c c' a b) (hb : RowKit.Below w'.heap.size w' w'') : HoldS w w'' A A' n n' c c' a b :=
  ⟨cell_kept hb h.x0, cell_kept hb h.x1, cell_kept hb h.y0, cell_kept hb h.y1, h.da.below hb, h.db.below hb, below_chain h.bl hb⟩
theorem HoldS.belowH {w w' w'' : World} {A A' : Option Addr} {n n' c c' a b : Nat} (h : Hid (HoldS w w' A A' n n' c c' a b)) (hb : RowKit.Below w'.heap.size w' w'') : HoldS w w'' A A' n n' c c' a b := h.out.below hb
theorem HoldS.dn {w w' : World} {A A' : Option Addr} {n n' c c' a b : Nat} (h : HoldS w w' A A' n n' c c' a b) (k : Nat) : HoldS w (w'.drewN k) A A' n n' c c' a b :=
  h.below (below_dn (Below.refl _ _) k)

set_option maxRecDepth 100000 in
set_option maxHeartbeats 1000000 in
theorem rhold_walk (v u : Value) (a b : Nat) (x y : Int) (w : World) (h : ZAt w v false a) (g : ZAt w u false b) (ha : a ≠ 0) (hb : b ≠ 0)
    (hs : (toD a).length ≤ 2000) (hs2 : (toD b).length ≤ 2000) (hx : -100000 ≤ x) (hx2 : x ≤ 100000) (hy : -100000 ≤ y) (hy2 : y ≤ 100000) :
    Calls Tryz.prog 50 #[v, .int .i64 x, u, .int .i64 y] w fun e w' => e = .returned (.int .i64 (hI a x b y)) ∧ Below w.heap.size w w' := by
  obtain ⟨s, rfl, h⟩ := h
  obtain ⟨s', rfl, g⟩ := g
  have HS := Lib.hid (fun (a : Nat) (ha : a ≠ 0) (s : Value) (W : World) (hd : DgAt W s a) => show Calls Tryz.prog 74 #[.agg #[.bool false, s]] W fun e w' => e = .returned (.int .i64 1) ∧ Below W.heap.size W w' from by
    have := rsign_walk (.agg #[.bool false, s]) false a W ⟨s, rfl, hd⟩
    rw [show sgI04 false a = 1 by unfold sgI04; rw [if_neg ha]; rfl] at this
    exact this)
  have HBg := Lib.hid (fun (s : Value) (W : World) (z : Nat) (h : ∃ q, DgAt W s q ∧ blen q = z ∧ (toD q).length ≤ 2000) => show Calls Tryz.prog 27 #[s] W fun e w' => e = .returned (.int .i64 (z : Int)) ∧ Below W.heap.size W w' from by
    obtain ⟨q, hd, rfl, hq⟩ := h
    refine (rbits_walk s q W hd (by omega)).mono ?_
    rintro e w' ⟨rfl, rfl⟩
    exact ⟨rfl, Below.refl _ _⟩)
  have lba : blen a ≤ 64000 := by have := toD_length a; omega
  have lbb : blen b ≤ 64000 := by have := toD_length b; omega
  obtain ⟨A, c, rfl, hc, hz, hr⟩ := id h
  obtain ⟨A', c', rfl, hc', hz', hr'⟩ := id g
  have hw1 := below_alloc' w (.cells #[.bool false, .slice A (toD a).length c] 94)
  have hw2 := below_chain hw1 (below_alloc' (w.alloc (.cells #[.bool false, .slice A (toD a).length c] 94)) (.cells #[.bool false, .slice A' (toD b).length c'] 94))
  have K0 : HoldS w ((w.alloc (.cells #[.bool false, .slice A (toD a).length c] 94)).alloc (.cells #[.bool false, .slice A' (toD b).length c'] 94)) A A' (toD a).length (toD b).length c c' a b :=
    ⟨by simp, by simp, by simp, by simp, h.below hw2, g.below hw2, hw2⟩
  have HK0 := Lib.hid (K0.below (below_draw' _))
  have HL := Lib.hid (show (toD a).length ≤ 2000 ∧ (toD b).length ≤ 2000 from ⟨hs, hs2⟩)
  have HLb := Lib.hid (show blen a ≤ 64000 ∧ blen b ≤ 64000 from ⟨lba, lbb⟩)
  have HA := Lib.hid (show a ≠ 0 ∧ b ≠ 0 from ⟨ha, hb⟩)
  obtain ⟨n, hn⟩ : ∃ n, (toD a).length = n := ⟨_, rfl⟩
  obtain ⟨n', hn'⟩ : ∃ n, (toD b).length = n := ⟨_, rfl⟩
  rw [hn, hn'] at HK0
  rw [hn, hn']
  have HSg := Lib.hid (show ∀ (t : Value) W, (DgAt W t a ∨ DgAt W t b) → Calls Tryz.prog 74 #[.agg #[.bool false, t]] W fun e w' => e = .returned (.int .i64 1) ∧ Below W.heap.size W w' from fun t W h => h.elim (fun h => HS.out a ha _ W h) (fun h => HS.out b hb _ W h))
  have HX := Lib.hid (show (-100000 ≤ x ∧ x ≤ 100000) ∧ -100000 ≤ y ∧ y ≤ 100000 from ⟨⟨hx, hx2⟩, hy, hy2⟩)
  clear hx hx2 hy hy2
  clear ha hb hs hs2 lba lbb hz hr hz' hr' hc hc' h g hw1 hw2 K0 hn hn' HS
  go_enter Tryz.func50, Tryz.ntmps50
  go_wp2_with fail
  go_region_held3 (fun w' => w'.cell? ⟨w.heap.size, 0, none⟩ = some (.bool false) ∧ w'.cell? ⟨w.heap.size, 1, none⟩ = some (.slice A n c) ∧ w'.cell? ⟨w.heap.size + 1, 0, none⟩ = some (.bool false) ∧ w'.cell? ⟨w.heap.size + 1, 1, none⟩ = some (.slice A' n' c') ∧ Hid (HoldS w w' A A' n n' c c' a b))
    (first | exact ⟨HK0.out.x0, HK0.out.x1, HK0.out.y0, HK0.out.y1, HK0⟩ | (go_split_ands; (have K5 : HoldS w w5 A A' n n' c c' a b := HoldS.belowH (by assumption) hb5); exact ⟨K5.x0, K5.x1, K5.y0, K5.y1, Lib.hid K5⟩))
    (first | (go_split_ands; go_at_call 74; refine (HSg.out _ _ (by first | exact .inl (HoldS.da (Hid.out (by assumption))) | exact .inr (HoldS.db (Hid.out (by assumption))))).mono ?_; rintro e w5 ⟨rfl, hb5⟩))
  have HK1 : Hid (HoldS w w5 A A' n n' c c' a b) := Lib.hid (by go_split_ands; exact HoldS.belowH (by assumption) hb5)
  clear hb5
  have x0 := HK1.out.x0
  have x1 := HK1.out.x1
  have y0 := HK1.out.y0
  have y1 := HK1.out.y1
  go_wp2_with fail
  refine (HSg.out _ _ (.inl HK1.out.da)).mono ?_
  rintro e w6 ⟨rfl, hb6⟩
  have HK2 : Hid (HoldS w w6 A A' n n' c c' a b) := Lib.hid (HK1.out.below hb6)
  clear hb6 x0 x1 y0 y1
  have x0 := HK2.out.x0
  have x1 := HK2.out.x1
  have y0 := HK2.out.y0
  have y1 := HK2.out.y1
  obtain ⟨t, ht⟩ : ∃ t, blen a = t := ⟨_, rfl⟩
  obtain ⟨u, hu⟩ : ∃ u, blen b = u := ⟨_, rfl⟩
  have HTa := Lib.hid (show blen a = t ∧ (toD a).length ≤ 2000 from ⟨ht, HL.out.1⟩)
  have HTb := Lib.hid (show blen b = u ∧ (toD b).length ≤ 2000 from ⟨hu, HL.out.2⟩)
  obtain ⟨P, hP⟩ : ∃ P : Int, (t : Int) + x = P := ⟨_, rfl⟩
  obtain ⟨Q, hQ⟩ : ∃ Q : Int, (u : Int) + y = Q := ⟨_, rfl⟩
  have hlb := HLb.out
  have hX := HX.out
  rw [ht, hu] at hlb
  have p1 : IntKind.i64.wrap ((t : Int) + x) = P := by rw [IntKind.wrap_i64]; omega
  have p2 : IntKind.i64.wrap ((u : Int) + y) = Q := by rw [IntKind.wrap_i64]; omega
  have HI : Hid (hI a x b y = if P < Q then -1 else if Q < P then 1 else if y < x then cmpI (a * 2 ^ (x - y).toNat) b else cmpI a (b * 2 ^ (y - x).toNat)) := Lib.hid (by unfold hI; rw [ht, hu, hP, hQ]; rfl)
  clear ht hu hP hQ hlb hX
  have HKW := Lib.hid (HK2.out.below (below_draw' w6))
  clear x0 x1 y0 y1
  go_wp2_with fail
  go_region_held3 (fun w' => w'.cell? ⟨w.heap.size, 0, none⟩ = some (.bool false) ∧ w'.cell? ⟨w.heap.size, 1, none⟩ = some (.slice A n c) ∧ w'.cell? ⟨w.heap.size + 1, 0, none⟩ = some (.bool false) ∧ w'.cell? ⟨w.heap.size + 1, 1, none⟩ = some (.slice A' n' c') ∧ Hid (HoldS w w' A A' n n' c c' a b))
    (first | exact ⟨HKW.out.x0, HKW.out.x1, HKW.out.y0, HKW.out.y1, HKW⟩ | (go_split_ands; (have K5 : HoldS w w5 A A' n n' c c' a b := HoldS.belowH (by assumption) hb5); exact ⟨K5.x0, K5.x1, K5.y0, K5.y1, Lib.hid K5⟩))
    (first | (go_split_ands; go_at_call 27; refine (HBg.out _ _ _ (by first | exact ⟨_, HoldS.da (Hid.out (by assumption)), HTa.out⟩ | exact ⟨_, HoldS.db (Hid.out (by assumption)), HTb.out⟩)).mono ?_; rintro e w5 ⟨rfl, hb5⟩))
  have HK3 : Hid (HoldS w w5 A A' n n' c c' a b) := Lib.hid (by go_split_ands; exact HoldS.belowH (by assumption) hb5)
  clear hb5 HKW
  by_cases c1 : P < Q
  · have HI2 := Lib.hid (show hI a x b y = -1 by rw [HI.out, if_pos c1])
    go_wp2
    go_ret
    exact ⟨by rw [HI2.out]; rfl, HK3.out.bl⟩
  · by_cases c2 : Q < P
    · have HI2 := Lib.hid (show hI a x b y = 1 by rw [HI.out, if_neg c1, if_pos c2])
      go_wp2
      go_ret
      exact ⟨by rw [HI2.out]; rfl, HK3.out.bl⟩
    · have HKW := Lib.hid (HK3.out.below (below_draw' w5))
      generalize w5 = w3 at *
      by_cases c3 : y < x
      · obtain ⟨d, hd⟩ : ∃ d : Nat, x - y = (d : Int) := ⟨(x - y).toNat, by omega⟩
        have hX := HX.out
        have hd2 : d ≤ 200000 := by omega
        have q1 : IntKind.i64.wrap (x - y) = (d : Int) := by rw [IntKind.wrap_i64]; omega
        have HSh := Lib.hid (fun (W : World) (h : DgAt W (.slice A n c) a) => rzshl_walk (.agg #[.bool false, .slice A n c]) a (d : Int) W ⟨_, rfl, h⟩ (by omega) (by omega) (Nat.le_trans HL.out.1 (by omega)))
        rw [Int.toNat_natCast] at HSh
        have hlen := len_shl (n := d) HL.out.1
        have hlen2 := HL.out.2
        have HI2 : Hid (hI a x b y = cmpI (a * 2 ^ d) b) := Lib.hid (by rw [HI.out, if_neg c1, if_neg c2, if_pos c3, hd, Int.toNat_natCast])
        obtain ⟨p, hp⟩ : ∃ p, a * 2 ^ d = p := ⟨_, rfl⟩
        rw [hp] at hlen HI2 HSh
        have HCm := Lib.hid (fun (v : Value) (W : World) (h : ZAt W v false p) (g : DgAt W (.slice A' n' c') b) => rzcmp_walk v (.agg #[.bool false, .slice A' n' c']) p b W h ⟨_, rfl, g⟩ (by omega) (by omega))
        obtain ⟨ci, hci⟩ : ∃ ci, cmpI p b = ci := ⟨_, rfl⟩
        rw [hci] at HI2 HCm
        clear hd hX hd2 hlen hlen2 hp hci
        go_wp2_with fail
        go_region_held3 (fun w' => w'.cell? ⟨w.heap.size, 0, none⟩ = some (.bool false) ∧ w'.cell? ⟨w.heap.size, 1, none⟩ = some (.slice A n c) ∧ w'.cell? ⟨w.heap.size + 1, 0, none⟩ = some (.bool false) ∧ w'.cell? ⟨w.heap.size + 1, 1, none⟩ = some (.slice A' n' c') ∧ Hid (HoldS w w' A A' n n' c c' a b))
          (first | exact ⟨HKW.out.x0, HKW.out.x1, HKW.out.y0, HKW.out.y1, HKW⟩ | (go_split_ands; (have K5 : HoldS w w5 A A' n n' c c' a b := HoldS.belowH (by assumption) hb5); exact ⟨K5.x0, K5.x1, K5.y0, K5.y1, Lib.hid K5⟩))
          (first | (go_split_ands; go_at_call 77; refine (HSh.out _ (HoldS.da (Hid.out (by assumption)))).mono ?_; rintro e w5 ⟨v5, rfl, hd5, hb5⟩) | (go_split_ands; go_at_call 76; refine (HCm.out _ _ hd5 (HoldS.db (Hid.out (by assumption)))).mono ?_; rintro e w5 ⟨rfl, hb5⟩))
        have HK4 : Hid (HoldS w w5 A A' n n' c c' a b) := Lib.hid (by go_split_ands; exact HoldS.belowH (by assumption) hb5)
        clear hb5
        go_wp2
        go_ret
        exact ⟨by rw [HI2.out]; rfl, HK4.out.bl⟩
      · obtain ⟨d, hd⟩ : ∃ d : Nat, y - x = (d : Int) := ⟨(y - x).toNat, by omega⟩
        have hX := HX.out
        have hd2 : d ≤ 200000 := by omega
        have q1 : IntKind.i64.wrap (y - x) = (d : Int) := by rw [IntKind.wrap_i64]; omega
        have HSh := Lib.hid (fun (W : World) (h : DgAt W (.slice A' n' c') b) => rzshl_walk (.agg #[.bool false, .slice A' n' c']) b (d : Int) W ⟨_, rfl, h⟩ (by omega) (by omega) (Nat.le_trans HL.out.2 (by omega)))
        rw [Int.toNat_natCast] at HSh
        have hlen := len_shl (n := d) HL.out.2
        have hlen2 := HL.out.1
        have HI2 : Hid (hI a x b y = cmpI a (b * 2 ^ d)) := Lib.hid (by rw [HI.out, if_neg c1, if_neg c2, if_neg c3, hd, Int.toNat_natCast])
        obtain ⟨p, hp⟩ : ∃ p, b * 2 ^ d = p := ⟨_, rfl⟩
        rw [hp] at hlen HI2 HSh
        have HCm := Lib.hid (fun (v : Value) (W : World) (h : ZAt W v false p) (g : DgAt W (.slice A n c) a) => rzcmp_walk (.agg #[.bool false, .slice A n c]) v a p W ⟨_, rfl, g⟩ h (by omega) (by omega))
        obtain ⟨ci, hci⟩ : ∃ ci, cmpI a p = ci := ⟨_, rfl⟩
        rw [hci] at HI2 HCm
        clear hd hX hd2 hlen hlen2 hp hci
        go_wp2_with fail
        go_region_held3 (fun w' => w'.cell? ⟨w.heap.size, 0, none⟩ = some (.bool false) ∧ w'.cell? ⟨w.heap.size, 1, none⟩ = some (.slice A n c) ∧ w'.cell? ⟨w.heap.size + 1, 0, none⟩ = some (.bool false) ∧ w'.cell? ⟨w.heap.size + 1, 1, none⟩ = some (.slice A' n' c') ∧ Hid (HoldS w w' A A' n n' c c' a b))
          (first | exact ⟨HKW.out.x0, HKW.out.x1, HKW.out.y0, HKW.out.y1, HKW⟩ | (go_split_ands; (have K5 : HoldS w w5 A A' n n' c c' a b := HoldS.belowH (by assumption) hb5); exact ⟨K5.x0, K5.x1, K5.y0, K5.y1, Lib.hid K5⟩))
          (first | (go_split_ands; go_at_call 77; refine (HSh.out _ (HoldS.db (Hid.out (by assumption)))).mono ?_; rintro e w5 ⟨v5, rfl, hd5, hb5⟩) | (go_split_ands; go_at_call 76; refine (HCm.out _ _ hd5 (HoldS.da (Hid.out (by assumption)))).mono ?_; rintro e w5 ⟨rfl, hb5⟩))
        have HK4 : Hid (HoldS w w5 A A' n n' c c' a b) := Lib.hid (by go_split_ands; exact HoldS.belowH (by assumption) hb5)
        clear hb5
        go_wp2
        go_ret
        exact ⟨by rw [HI2.out]; rfl, HK4.out.bl⟩
end Go.Proofs.YtooehlneoboenaaGreatDoor

namespace Go.Proofs.YtooehlneoboenaaGreatDoor
open Go.RowKit

theorem unN_bl (L : Int) (a : Nat) (x E : Int) (K : Nat) (h2 : (blen a : Int) + x ≤ E) (hK : (K : Int) = E - L) : blen (unN L a x) ≤ K := by
  unfold unN
  by_cases h : L ≤ x
  · rw [if_pos h]
    by_cases ha : a = 0
    · subst ha; rw [Nat.zero_mul, blen_zero]; omega
    · rw [blen_mul_pow ha]; omega
  · rw [if_neg h]
    refine blen_le.2 ?_
    rw [Nat.div_lt_iff_lt_mul (Nat.two_pow_pos _), ← Nat.pow_add]
    exact Nat.lt_of_lt_of_le (blen_hi a) (Nat.pow_le_pow_right (by omega) (by omega))
theorem size_lt (f : Fm) (hP : 2 ≤ f.P) (K : Nat) (hK : vP f f.inf = 2 ^ K) (n : Nat) (h : blen n ≤ K) : sizeN f.P n < f.inf := by
  have h1 := (sizeN_vP f hP n).1
  have h2 : n < 2 ^ K := blen_le.1 h
  refine Nat.lt_of_not_le fun h3 => ?_
  have := vP_mono f h3
  omega
structure RndS (w w' : World) (sg P L G I Q : Int) (A : Option Addr) (n c a : Nat) : Prop where
  x0 : w'.cell? ⟨w.heap.size, 0, none⟩ = some (.int .u64 sg)
  x1 : w'.cell? ⟨w.heap.size, 1, none⟩ = some (.int .i64 P)
  x2 : w'.cell? ⟨w.heap.size, 2, none⟩ = some (.int .i64 L)
  x3 : w'.cell? ⟨w.heap.size, 3, none⟩ = some (.int .i64 G)
  x4 : w'.cell? ⟨w.heap.size, 4, none⟩ = some (.int .u64 I)
  x5 : w'.cell? ⟨w.heap.size, 5, none⟩ = some (.int .u64 Q)
  da : DgAt w' (.slice A n c) a
  bl : RowKit.Below w.heap.size w w'
  sz : w.heap.size < w'.heap.size
theorem RndS.below {w w' w'' : World} {sg P L G I Q : Int} {A : Option Addr} {n c a : Nat} (h : RndS w w' sg P L G I Q A n c a) (hb : RowKit.Below w'.heap.size w' w'') : RndS w w'' sg P L G I Q A n c a :=
  ⟨cell_kept hb h.x0, cell_kept hb h.x1, cell_kept hb h.x2, cell_kept hb h.x3, cell_kept hb h.x4, cell_kept hb h.x5, h.da.below hb, below_chain h.bl hb, Nat.lt_of_lt_of_le h.sz hb.size⟩
theorem RndS.belowH {w w' w'' : World} {sg P L G I Q : Int} {A : Option Addr} {n c a : Nat} (h : Hid (RndS w w' sg P L G I Q A n c a)) (hb : RowKit.Below w'.heap.size w' w'') : RndS w w'' sg P L G I Q A n c a := h.out.below hb
theorem RndS.conj {w w' : World} {sg P L G I Q : Int} {A : Option Addr} {n c a : Nat} (h : RndS w w' sg P L G I Q A n c a) :
    w'.cell? ⟨w.heap.size, 0, none⟩ = some (.int .u64 sg) ∧ w'.cell? ⟨w.heap.size, 1, none⟩ = some (.int .i64 P) ∧ w'.cell? ⟨w.heap.size, 2, none⟩ = some (.int .i64 L) ∧ w'.cell? ⟨w.heap.size, 3, none⟩ = some (.int .i64 G) ∧ w'.cell? ⟨w.heap.size, 4, none⟩ = some (.int .u64 I) ∧ w'.cell? ⟨w.heap.size, 5, none⟩ = some (.int .u64 Q) ∧ Hid (RndS w w' sg P L G I Q A n c a) :=
  ⟨h.x0, h.x1, h.x2, h.x3, h.x4, h.x5, Lib.hid h⟩
theorem RndS.set {w w' : World} {sg P L G I Q : Int} {A : Option Addr} {n c a : Nat} (h : RndS w w' sg P L G I Q A n c a) {g : Nat} (hB : Box2 w' g (.bool false) (.slice none 0 0)) (hg : w.heap.size < g) (v0 v1 : Value) :
    RndS w ((w'.setCell ⟨g, 0, none⟩ v0).setCell ⟨g, 1, none⟩ v1) sg P L G I Q A n c a := by
  have hne : ∀ (i j : Nat), (⟨w.heap.size, i, none⟩ : Addr) ≠ ⟨g, j, none⟩ := fun i j e => by injection e with e; omega
  refine ⟨?_, ?_, ?_, ?_, ?_, ?_, h.da.two hB v0 v1, below_two h.bl (by omega) v0 v1, ?_⟩
  · rw [cell_other (hne _ _).symm, cell_other (hne _ _).symm]; exact h.x0
  · rw [cell_other (hne _ _).symm, cell_other (hne _ _).symm]; exact h.x1
  · rw [cell_other (hne _ _).symm, cell_other (hne _ _).symm]; exact h.x2
  · rw [cell_other (hne _ _).symm, cell_other (hne _ _).symm]; exact h.x3
  · rw [cell_other (hne _ _).symm, cell_other (hne _ _).symm]; exact h.x4
  · rw [cell_other (hne _ _).symm, cell_other (hne _ _).symm]; exact h.x5
  · have := h.sz
    simpa using this
/-- Behind the sum: it lies in a cell of its own. -/
structure Rnd8 (w w' : World) (sg P L G I Q : Int) (A : Option Addr) (n c a g : Nat) (A7 : Option Addr) (n7 c7 q : Nat) : Prop where
  r : RndS w w' sg P L G I Q A n c a
  z0 : w'.cell? ⟨g, 0, none⟩ = some (.bool false)
  z1 : w'.cell? ⟨g, 1, none⟩ = some (.slice A7 n7 c7)
  dq : DgAt w' (.slice A7 n7 c7) q
theorem Rnd8.below {w w' w'' : World} {sg P L G I Q : Int} {A : Option Addr} {n c a g : Nat} {A7 : Option Addr} {n7 c7 q : Nat} (h : Rnd8 w w' sg P L G I Q A n c a g A7 n7 c7 q) (hb : RowKit.Below w'.heap.size w' w'') : Rnd8 w w'' sg P L G I Q A n c a g A7 n7 c7 q :=
  ⟨h.r.below hb, cell_kept hb h.z0, cell_kept hb h.z1, h.dq.below hb⟩
theorem Rnd8.belowH {w w' w'' : World} {sg P L G I Q : Int} {A : Option Addr} {n c a g : Nat} {A7 : Option Addr} {n7 c7 q : Nat} (h : Hid (Rnd8 w w' sg P L G I Q A n c a g A7 n7 c7 q)) (hb : RowKit.Below w'.heap.size w' w'') : Rnd8 w w'' sg P L G I Q A n c a g A7 n7 c7 q := h.out.below hb
theorem Rnd8.conj {w w' : World} {sg P L G I Q : Int} {A : Option Addr} {n c a g : Nat} {A7 : Option Addr} {n7 c7 q : Nat} (h : Rnd8 w w' sg P L G I Q A n c a g A7 n7 c7 q) :
    w'.cell? ⟨w.heap.size, 2, none⟩ = some (.int .i64 L) ∧ w'.cell? ⟨g, 0, none⟩ = some (.bool false) ∧ w'.cell? ⟨g, 1, none⟩ = some (.slice A7 n7 c7) ∧ Hid (Rnd8 w w' sg P L G I Q A n c a g A7 n7 c7 q) :=
  ⟨h.r.x2, h.z0, h.z1, Lib.hid h⟩
theorem Rnd8.stored {w w' : World} {sg P L G I Q : Int} {A : Option Addr} {n c a g : Nat} {A7 : Option Addr} {n7 c7 q : Nat} (h : Hid (RndS w w' sg P L G I Q A n c a)) (hB : Hid (Box2 w' g (.bool false) (.slice none 0 0))) (hg : w.heap.size < g) (hq : Hid (DgAt w' (.slice A7 n7 c7) q)) :
    Hid (Rnd8 w ((w'.setCell ⟨g, 0, none⟩ (.bool false)).setCell ⟨g, 1, none⟩ (.slice A7 n7 c7)) sg P L G I Q A n c a g A7 n7 c7 q) :=
  Lib.hid ⟨h.out.set hB.out hg _ _, (two_set hB.out _ _).1, (two_set hB.out _ _).2, hq.out.two hB.out _ _⟩
theorem Rnd8.fresh {w w' : World} {sg P L G I Q : Int} {A : Option Addr} {n c a : Nat} {A7 : Option Addr} {n7 c7 q : Nat} (t : TypeId) (h : Hid (RndS w w' sg P L G I Q A n c a)) (hq : Hid (DgAt w' (.slice A7 n7 c7) q)) :
    Hid (Rnd8 w (w'.alloc (.cells #[.bool false, .slice A7 n7 c7] t)) sg P L G I Q A n c a w'.heap.size A7 n7 c7 q) :=
  Lib.hid ⟨h.out.below (below_alloc' _ _), by simp, by simp, hq.out.below (below_alloc' _ _)⟩

set_option maxRecDepth 100000 in
set_option maxHeartbeats 4000000 in
theorem rround_main (f : Fm) (sg P L G I Q E : Int) (K : Nat) (hP : 2 ≤ f.P) (hfL : f.L = L) (hE : G + P = E) (hIf : (f.inf : Int) = I) (hK : vP f f.inf = 2 ^ K) (hKE : (K : Int) = E - L)
    (hL1 : -2000 ≤ L) (hL2 : L ≤ 0) (hE1 : 0 ≤ E) (hE2 : E ≤ 2000) (hI2 : I ≤ 9223372036854775807)
    (hSz : ∀ (v : Value) (m : Nat) (w : World), DgAt w v m → blen m ≤ K → Calls Tryz.prog 47 #[.agg #[.int .u64 sg, .int .i64 P, .int .i64 L, .int .i64 G, .int .u64 I, .int .u64 Q], v] w fun e w' => e = .returned (.int .u64 ((sizeN f.P m : Nat) : Int)) ∧ Below w.heap.size w w')
    (hWh : ∀ (z : Int) (s : Nat) (w : World), z = (s : Int) → s ≤ f.inf → Calls Tryz.prog 49 #[.agg #[.int .u64 sg, .int .i64 P, .int .i64 L, .int .i64 G, .int .u64 I, .int .u64 Q], .int .u64 z] w fun e w' => ∃ v', e = .returned v' ∧ ZAt w' v' false (vP f s) ∧ Below w.heap.size w w')
    (v : Value) (a : Nat) (x : Int) (w : World) (h : DgAt w v a) (hb : blen a ≤ 16000) (ha : a ≠ 0) (h1 : L ≤ (blen a : Int) + x) (h2 : (blen a : Int) + x ≤ E) :
    Calls Tryz.prog 23 #[.agg #[.int .u64 sg, .int .i64 P, .int .i64 L, .int .i64 G, .int .u64 I, .int .u64 Q], v, .int .i64 x] w fun e w' => e = .returned (.int .u64 ((rdN f E a x : Nat) : Int)) ∧ Below w.heap.size w w' := by
  have hN := unN_bl L a x E K h2 hKE
  obtain ⟨N, hNe⟩ : ∃ N, unN L a x = N := ⟨_, rfl⟩
  rw [hNe] at hN
  have hs := size_lt f hP K hK N hN
  have hSzN := fun (v : Value) (w : World) (h : DgAt w v N) => hSz v N w h hN
  have hvI : ∀ s, s ≤ f.inf → vP f s ≤ 2 ^ K := fun s hs => by rw [← hK]; exact vP_mono f hs
  obtain ⟨s, hse⟩ : ∃ s, sizeN f.P N = s := ⟨_, rfl⟩
  simp only [hse] at hSzN
  rw [hse] at hs
  have hR : rdN f E a x = min (if 0 < hI a x (md f s) (L - 1) ∨ (hI a x (md f s) (L - 1) = 0 ∧ s % 2 = 1) then s + 1 else s) f.inf := by
    unfold rdN
    rw [hfL, if_neg (by omega), if_neg (by omega), hNe, hse]
  have hq0 : md f s ≠ 0 := by have := vP_lt f s; unfold md; omega
  have hv1 := hvI s (by omega)
  have hv2 := hvI (s + 1) hs
  have hqb : blen (md f s) ≤ K + 1 := by
    refine blen_le.2 ?_
    have := vP_lt f s
    rw [Nat.pow_succ]
    unfold md; omega
  have hK4 : K ≤ 4000 := by omega
  have hla : (toD a).length ≤ 501 := tdl2 (by omega)
  have hlq : (toD (md f s)).length ≤ 200 := tdl2 (by omega)
  have hl1 : (toD (vP f s)).length ≤ 200 := tdl2 (Nat.le_trans (blen_le.2 (Nat.lt_of_le_of_lt hv1 (Nat.pow_lt_pow_right (by omega) (Nat.lt_succ_self K)))) (by omega))
  have hl2 : (toD (vP f (s + 1))).length ≤ 200 := tdl2 (Nat.le_trans (blen_le.2 (Nat.lt_of_le_of_lt hv2 (Nat.pow_lt_pow_right (by omega) (Nat.lt_succ_self K)))) (by omega))
  have HWh := Lib.hid (fun (z : Int) (w : World) (hz : z = (s : Int) ∨ z = (s : Int) + 1) => show Calls Tryz.prog 49 #[.agg #[.int .u64 sg, .int .i64 P, .int .i64 L, .int .i64 G, .int .u64 I, .int .u64 Q], .int .u64 z] w fun e w' => ∃ v', e = .returned v' ∧ ((z = (s : Int) ∧ ZAt w' v' false (vP f s)) ∨ (z = (s : Int) + 1 ∧ ZAt w' v' false (vP f (s + 1)))) ∧ Below w.heap.size w w' from by
    rcases hz with hz | hz
    · refine (hWh z s w hz (by omega)).mono ?_
      rintro e w' ⟨v', rfl, hd, hb⟩
      exact ⟨v', rfl, .inl ⟨hz, hd⟩, hb⟩
    · refine (hWh z (s + 1) w (by omega) hs).mono ?_
      rintro e w' ⟨v', rfl, hd, hb⟩
      exact ⟨v', rfl, .inr ⟨hz, hd⟩, hb⟩)
  have hAd := fun (v u : Value) (w : World) (h : ZAt w v false (vP f s)) (g : ZAt w u false (vP f (s + 1))) => rzadd_walk v u (vP f s) (vP f (s + 1)) false w h g (fun h => by cases h) (by omega) (by omega)
  rw [show zsN false (vP f s) (vP f (s + 1)) = false from rfl, show zsA false (vP f s) (vP f (s + 1)) = md f s from rfl] at hAd
  have HHo := Lib.hid (fun (v u : Value) (w : World) (h : ZAt w v false a) (g : ZAt w u false (md f s)) => rhold_walk v u a (md f s) x (L - 1) w h g ha hq0 (by omega) (by omega) (by omega) (by omega) (by omega) (by omega))
  have HMk := Lib.hid (fun W x hx => rmk_open false a (fun h => by cases h) (by omega) W x hx)
  obtain ⟨q, hq⟩ : ∃ q, md f s = q := ⟨_, rfl⟩
  rw [hq] at hR hAd HHo
  obtain ⟨r1, hr1⟩ : ∃ r, vP f s = r := ⟨_, rfl⟩
  obtain ⟨r2, hr2⟩ : ∃ r, vP f (s + 1) = r := ⟨_, rfl⟩
  rw [hr1, hr2] at hAd HWh
  have HAd := Lib.hid hAd
  obtain ⟨ly, hly⟩ : ∃ ly : Int, L - 1 = ly := ⟨_, rfl⟩
  obtain ⟨ci, hci⟩ : ∃ ci, hI a x q ly = ci := ⟨_, rfl⟩
  rw [hly] at hR HHo
  rw [hci] at hR HHo
  have p3 : IntKind.i64.wrap (L - 1) = ly := by rw [IntKind.wrap_i64]; omega
  have p4 : IntKind.u64.wrap ((s : Int) + 1) = (s : Int) + 1 := by rw [IntKind.wrap_u64]; omega
  have hs64 : (s : Int) + 1 ≤ I := by omega
  have HSz := Lib.hid hSzN
  obtain ⟨t, ht⟩ : ∃ t, blen a = t := ⟨_, rfl⟩
  have hBt := fun (v : Value) (w : World) (h : DgAt w v a) => rbits_walk v a w h (by omega)
  simp only [ht] at hBt
  have HBt := Lib.hid hBt
  rw [ht] at h1 h2 hb
  obtain ⟨T, hT⟩ : ∃ T : Int, (t : Int) + x = T := ⟨_, rfl⟩
  rw [hT] at h1 h2
  have p5 : IntKind.i64.wrap ((t : Int) + x) = T := by rw [IntKind.wrap_i64]; omega
  have p6 : IntKind.i64.wrap (G + P) = E := by rw [IntKind.wrap_i64, hE]; omega
  have ht1 : 1 ≤ t := by rw [← ht]; exact blen_pos ha
  obtain ⟨A, c, rfl, hc, hz, hr⟩ := id h
  have hw0 := below_alloc' w (.cells #[.int .u64 sg, .int .i64 P, .int .i64 L, .int .i64 G, .int .u64 I, .int .u64 Q] 58)
  have hn0 : (((toD a).length : Int) == 0) = false := by
    have h3 : (toD a).length ≠ 0 := fun e => ha ((toD_length_zero a).1 e)
    rw [beq_eq_false_iff_ne]; omega
  obtain ⟨n, hn⟩ : ∃ n, (toD a).length = n := ⟨_, rfl⟩
  rw [hn] at h hn0
  rw [hn]
  have HK0 := Lib.hid (show RndS w (w.alloc (.cells #[.int .u64 sg, .int .i64 P, .int .i64 L, .int .i64 G, .int .u64 I, .int .u64 Q] 58)) sg P L G I Q A n c a from ⟨by simp, by simp, by simp, by simp, by simp, by simp, h.below hw0, hw0, by simp⟩)
  have HR := Lib.hid hR
  have HI := Lib.hid (show f.inf < 9223372036854775808 ∧ (f.inf : Int) = I by omega)
  have HS := Lib.hid hs
  have HLA := Lib.hid hla
  have key : (L ≤ x ∧ ∃ d : Nat, x - L = (d : Int) ∧ d ≤ 5000 ∧ N = a * 2 ^ d) ∨ (x < L ∧ ∃ d : Nat, L - x = (d : Int) ∧ d ≤ 20000 ∧ N = a / 2 ^ d) := by
    by_cases hx : L ≤ x
    · refine .inl ⟨hx, (x - L).toNat, by omega, by omega, ?_⟩
      rw [← hNe]; unfold unN; rw [if_pos hx]
    · refine .inr ⟨by omega, (L - x).toNat, by omega, by omega, ?_⟩
      rw [← hNe]; unfold unN; rw [if_neg hx]
  clear hr hz hc hb hw0 h hR hSzN hvI hse hq0 hv1 hv2 hqb hK4 hla hlq hl1 hl2 hAd hq hr1 hr2 hly hci ht hBt hT ht1 hn ha hSz hWh hKE hL1 hL2 hE1 hE2 hI2 hIf hE hfL hN hNe hK
  rcases key with ⟨hx, d, hd, hd2, hNd⟩ | ⟨hx, d, hd, hd2, hNd⟩
  · have p7 : IntKind.i64.wrap (x - L) = (d : Int) := by rw [IntKind.wrap_i64]; omega
    have HSh := Lib.hid (fun (v : Value) (w : World) (h : DgAt w v a) => rshl_walk v a (d : Int) w h (by omega) (by omega) (Nat.le_trans HLA.out (by omega)))
    rw [Int.toNat_natCast, ← hNd] at HSh
    clear hd hd2 hNd
    go_enter Tryz.func23, Tryz.ntmps23
    go_wp2_with fail
    refine (HBt.out _ _ HK0.out.da).mono ?_
    rintro e w1 ⟨rfl, rfl⟩
    go_wp2_with fail
    refine (HSh.out _ _ HK0.out.da).mono ?_
    rintro e w1 ⟨v1, rfl, hd1, hb1⟩
    have HK1 : Hid (RndS w w1 sg P L G I Q A n c a) := Lib.hid (HK0.out.below hb1)
    have x0 := HK1.out.x0
    have x1 := HK1.out.x1
    have x2 := HK1.out.x2
    have x3 := HK1.out.x3
    have x4 := HK1.out.x4
    have x5 := HK1.out.x5
    have HD1 := Lib.hid hd1
    clear hb1 hd1
    go_wp2_with fail
    refine (HSz.out _ _ HD1.out).mono ?_
    rintro e w2 ⟨rfl, hb2⟩
    have HK2 : Hid (RndS w w2 sg P L G I Q A n c a) := Lib.hid (HK1.out.below hb2)
    have HKW := Lib.hid (HK2.out.below (below_draw' w2))
    clear hb2 x0 x1 x2 x3 x4 x5 HD1 HK1
    have x0 := HK2.out.x0
    have x1 := HK2.out.x1
    have x2 := HK2.out.x2
    have x3 := HK2.out.x3
    have x4 := HK2.out.x4
    have x5 := HK2.out.x5
    go_upto_region 11 with fail
    go_cut [10] (fun s10 wx => ∃ (g : Nat) (A7 : Option Addr) (n7 c7 : Nat), s10 = .pointer (some ⟨g, 0, none⟩) ∧ Hid (Rnd8 w wx sg P L G I Q A n c a g A7 n7 c7 q))
    case first =>
      clear x0 x1 x2 x3 x4 x5
      go_region_held3 (fun w' => w'.cell? ⟨w.heap.size, 0, none⟩ = some (.int .u64 sg) ∧ w'.cell? ⟨w.heap.size, 1, none⟩ = some (.int .i64 P) ∧ w'.cell? ⟨w.heap.size, 2, none⟩ = some (.int .i64 L) ∧ w'.cell? ⟨w.heap.size, 3, none⟩ = some (.int .i64 G) ∧ w'.cell? ⟨w.heap.size, 4, none⟩ = some (.int .u64 I) ∧ w'.cell? ⟨w.heap.size, 5, none⟩ = some (.int .u64 Q) ∧ Hid (RndS w w' sg P L G I Q A n c a))
        (first | exact HKW.out.conj | (go_split_ands; exact (RndS.belowH (by assumption) hb7).conj) | (go_split_ands; exact (RndS.belowH (by assumption) hb6).conj) | (go_split_ands; exact (RndS.belowH (by assumption) hb5).conj) | (go_split_ands; exact (RndS.belowH (by assumption) (below_alloc' _ _)).conj) | (go_split_ands; exact ((RndS.belowH (by assumption) hb7).below (below_alloc' _ _)).conj) | (go_split_ands; exact ((RndS.belowH (by assumption) hb6).below (below_alloc' _ _)).conj) | (go_split_ands; exact ((RndS.belowH (by assumption) hb5).below (below_alloc' _ _)).conj) | (go_split_ands; exact (RndS.set (Hid.out (by assumption)) (Hid.out (by assumption)) (RndS.sz (Hid.out (by assumption))) _ _).conj))
        (first
          | (go_split_ands; go_at_call 49; refine (HWh.out _ _ (by exact .inl rfl)).mono ?_; rintro e w5 ⟨v5, rfl, hd5, hb5⟩; have hz1 : Hid (ZAt w5 v5 false r1) := Lib.hid (hd5.elim (fun h => h.2) (fun h => absurd h.1 (by omega))); clear hd5; have HR5 : Hid (RndS w w5 sg P L G I Q A n c a) := Lib.hid (RndS.belowH (by assumption) hb5); (first | (have HB := Lib.hid (HB.out.below hb5)) | (have HB : Hid (Box2 w5 w2.heap.size (.bool false) (.slice none 0 0)) := Lib.hid (Box2.below (Box2.below (box2_new w2 (.bool false) (.slice none 0 0) 94) (below_draw' _)) hb5)) | (have HB := Lib.hid (Box2.below (box2_new _ _ _ _) hb5)) | skip))
          | (go_split_ands; go_at_call 49; refine (HWh.out _ _ (by exact .inr rfl)).mono ?_; rintro e w6 ⟨v6, rfl, hd6, hb6⟩; have hz2 : Hid (ZAt w6 v6 false r2) := Lib.hid (hd6.elim (fun h => absurd h.1 (by omega)) (fun h => h.2)); have hz3 : Hid (ZAt w6 v5 false r1) := (by first | exact Lib.hid (hz1.out.below hb6) | exact Lib.hid ((hz1.out.below (below_alloc' _ _)).below hb6)); clear hd6; have HR6 : Hid (RndS w w6 sg P L G I Q A n c a) := Lib.hid (RndS.belowH (by assumption) hb6); (first | (have HB := Lib.hid (HB.out.below hb6)) | (have HB : Hid (Box2 w6 w2.heap.size (.bool false) (.slice none 0 0)) := Lib.hid (Box2.below (Box2.below (box2_new w2 (.bool false) (.slice none 0 0) 94) (below_draw' _)) hb6)) | (have HB := Lib.hid (Box2.below (box2_new _ _ _ _) hb6)) | skip))
          | (go_split_ands; go_at_call 48; refine (HAd.out _ _ _ (by first | exact hz3.out | exact hz3.out.below (below_alloc' _ _)) (by first | exact hz2.out | exact hz2.out.below (below_alloc' _ _))).mono ?_; rintro e w7 ⟨v7, rfl, hd7, hb7⟩; obtain ⟨s7, rfl, h7⟩ := hd7; obtain ⟨A7, c7, rfl, g1, g2, g3⟩ := id h7; have HD7 := Lib.hid h7; clear g1 g2 g3 h7; have HR7 : Hid (RndS w w7 sg P L G I Q A n c a) := Lib.hid (RndS.belowH (by assumption) hb7); (first | (have HB := Lib.hid (HB.out.below hb7)) | (have HB : Hid (Box2 w7 w2.heap.size (.bool false) (.slice none 0 0)) := Lib.hid (Box2.below (Box2.below (box2_new w2 (.bool false) (.slice none 0 0) 94) (below_draw' _)) hb7)) | (have HB := Lib.hid (Box2.below (box2_new _ _ _ _) hb7)) | skip); (first | obtain ⟨g0, g1, f0, f1, f2⟩ := HB.out | skip)))
      all_goals (go_wp2_with fail; go_meet; first | exact ⟨_, A7, _, c7, rfl, Rnd8.fresh _ HR7 HD7⟩ | exact ⟨_, A7, _, c7, rfl, Rnd8.stored HR7 HB HR6.out.sz HD7⟩ | exact ⟨_, A7, _, c7, rfl, Rnd8.stored HR7 HB HR5.out.sz HD7⟩ | exact ⟨_, A7, _, c7, rfl, Rnd8.stored HR7 HB HK2.out.sz HD7⟩)
    case rest =>
      obtain ⟨g, A7, n7, c7, rfl, HK8⟩ := hcut
      have HKX := Lib.hid (HK8.out.below (below_draw' _))
      go_wp2_with fail
      go_region_held3 (fun w' => w'.cell? ⟨w.heap.size, 2, none⟩ = some (.int .i64 L) ∧ w'.cell? ⟨g, 0, none⟩ = some (.bool false) ∧ w'.cell? ⟨g, 1, none⟩ = some (.slice A7 n7 c7) ∧ Hid (Rnd8 w w' sg P L G I Q A n c a g A7 n7 c7 q))
        (first | exact HKX.out.conj | (go_split_ands; exact (Rnd8.belowH (by assumption) hb10).conj) | (go_split_ands; exact (Rnd8.belowH (by assumption) hb9).conj))
        (first
          | (go_split_ands; go_at_call 51; refine (HMk.out _ _ (Lib.hid (RndS.da (Rnd8.r (Hid.out (by assumption)))))).mono ?_; rintro e w9 ⟨s9, rfl, hd9, hb9⟩; have HD9 := Lib.hid hd9; clear hd9)
          | (go_split_ands; go_at_call 50; refine (HHo.out _ _ _ ⟨_, rfl, HD9.out⟩ ⟨_, rfl, Rnd8.dq (Hid.out (by assumption))⟩).mono ?_; rintro e w10 ⟨rfl, hb10⟩))
      have HK9 : Hid (Rnd8 w w10 sg P L G I Q A n c a g A7 n7 c7 q) := Lib.hid (by go_split_ands; exact Rnd8.belowH (by assumption) hb10)
      clear hb9 hb10
      have x4 := HK9.out.r.x4
      have hR := HR.out
      have hI1 := HI.out
      have hS1 := HS.out
      by_cases g1 : 0 < ci
      · have HR2 := Lib.hid (show ((rdN f E a x : Nat) : Int) = min ((s : Int) + 1) I by rw [hR, if_pos (.inl g1)]; omega)
        clear hR hI1 hS1
        go_wp2
        go_ret
        exact ⟨by rw [HR2.out]; rfl, HK9.out.r.bl⟩
      · by_cases g2 : ci = 0
        · subst g2
          by_cases g3 : s % 2 = 1
          · have HR2 := Lib.hid (show ((rdN f E a x : Nat) : Int) = min ((s : Int) + 1) I by rw [hR, if_pos (.inr ⟨rfl, g3⟩)]; omega)
            have e1 : (s : Int) % 2 = 1 := by omega
            have e2 : (s : Int).tmod 2 = 1 := by rw [Int.tmod_eq_emod_of_nonneg (by omega)]; exact e1
            clear hR hI1 hS1 g1 g3
            go_wp2
            go_ret
            exact ⟨by rw [HR2.out]; rfl, HK9.out.r.bl⟩
          · have HR2 := Lib.hid (show ((rdN f E a x : Nat) : Int) = min (s : Int) I by rw [hR, if_neg (fun h => h.elim g1 (fun h => g3 h.2))]; omega)
            have e1 : (s : Int) % 2 = 0 := by omega
            have e2 : (s : Int).tmod 2 = 0 := by rw [Int.tmod_eq_emod_of_nonneg (by omega)]; exact e1
            clear hR hI1 hS1 g1 g3
            go_wp2
            go_ret
            exact ⟨by rw [HR2.out]; rfl, HK9.out.r.bl⟩
        · have HR2 := Lib.hid (show ((rdN f E a x : Nat) : Int) = min (s : Int) I by rw [hR, if_neg (fun h => h.elim g1 (fun h => g2 h.1))]; omega)
          have e0 : (ci == 0) = false := by rw [beq_eq_false_iff_ne]; exact g2
          clear hR hI1 hS1
          go_wp2
          go_ret
          exact ⟨by rw [HR2.out]; rfl, HK9.out.r.bl⟩
  · have p7 : IntKind.i64.wrap (L - x) = (d : Int) := by rw [IntKind.wrap_i64]; omega
    have HSh := Lib.hid (fun (v : Value) (w : World) (h : DgAt w v a) => rshr_walk v a (d : Int) w h (by omega) (by omega) (Nat.le_trans HLA.out (by omega)))
    rw [Int.toNat_natCast, ← hNd] at HSh
    clear hd hd2 hNd
    go_enter Tryz.func23, Tryz.ntmps23
    go_wp2_with fail
    refine (HBt.out _ _ HK0.out.da).mono ?_
    rintro e w1 ⟨rfl, rfl⟩
    go_wp2_with fail
    refine (HSh.out _ _ HK0.out.da).mono ?_
    rintro e w1 ⟨v1, rfl, hd1, hb1⟩
    have HK1 : Hid (RndS w w1 sg P L G I Q A n c a) := Lib.hid (HK0.out.below hb1)
    have x0 := HK1.out.x0
    have x1 := HK1.out.x1
    have x2 := HK1.out.x2
    have x3 := HK1.out.x3
    have x4 := HK1.out.x4
    have x5 := HK1.out.x5
    have HD1 := Lib.hid hd1
    clear hb1 hd1
    go_wp2_with fail
    refine (HSz.out _ _ HD1.out).mono ?_
    rintro e w2 ⟨rfl, hb2⟩
    have HK2 : Hid (RndS w w2 sg P L G I Q A n c a) := Lib.hid (HK1.out.below hb2)
    have HKW := Lib.hid (HK2.out.below (below_draw' w2))
    clear hb2 x0 x1 x2 x3 x4 x5 HD1 HK1
    have x0 := HK2.out.x0
    have x1 := HK2.out.x1
    have x2 := HK2.out.x2
    have x3 := HK2.out.x3
    have x4 := HK2.out.x4
    have x5 := HK2.out.x5
    go_upto_region 11 with fail
    go_cut [10] (fun s10 wx => ∃ (g : Nat) (A7 : Option Addr) (n7 c7 : Nat), s10 = .pointer (some ⟨g, 0, none⟩) ∧ Hid (Rnd8 w wx sg P L G I Q A n c a g A7 n7 c7 q))
    case first =>
      clear x0 x1 x2 x3 x4 x5
      go_region_held3 (fun w' => w'.cell? ⟨w.heap.size, 0, none⟩ = some (.int .u64 sg) ∧ w'.cell? ⟨w.heap.size, 1, none⟩ = some (.int .i64 P) ∧ w'.cell? ⟨w.heap.size, 2, none⟩ = some (.int .i64 L) ∧ w'.cell? ⟨w.heap.size, 3, none⟩ = some (.int .i64 G) ∧ w'.cell? ⟨w.heap.size, 4, none⟩ = some (.int .u64 I) ∧ w'.cell? ⟨w.heap.size, 5, none⟩ = some (.int .u64 Q) ∧ Hid (RndS w w' sg P L G I Q A n c a))
        (first | exact HKW.out.conj | (go_split_ands; exact (RndS.belowH (by assumption) hb7).conj) | (go_split_ands; exact (RndS.belowH (by assumption) hb6).conj) | (go_split_ands; exact (RndS.belowH (by assumption) hb5).conj) | (go_split_ands; exact (RndS.belowH (by assumption) (below_alloc' _ _)).conj) | (go_split_ands; exact ((RndS.belowH (by assumption) hb7).below (below_alloc' _ _)).conj) | (go_split_ands; exact ((RndS.belowH (by assumption) hb6).below (below_alloc' _ _)).conj) | (go_split_ands; exact ((RndS.belowH (by assumption) hb5).below (below_alloc' _ _)).conj) | (go_split_ands; exact (RndS.set (Hid.out (by assumption)) (Hid.out (by assumption)) (RndS.sz (Hid.out (by assumption))) _ _).conj))
        (first
          | (go_split_ands; go_at_call 49; refine (HWh.out _ _ (by exact .inl rfl)).mono ?_; rintro e w5 ⟨v5, rfl, hd5, hb5⟩; have hz1 : Hid (ZAt w5 v5 false r1) := Lib.hid (hd5.elim (fun h => h.2) (fun h => absurd h.1 (by omega))); clear hd5; have HR5 : Hid (RndS w w5 sg P L G I Q A n c a) := Lib.hid (RndS.belowH (by assumption) hb5); (first | (have HB := Lib.hid (HB.out.below hb5)) | (have HB : Hid (Box2 w5 w2.heap.size (.bool false) (.slice none 0 0)) := Lib.hid (Box2.below (Box2.below (box2_new w2 (.bool false) (.slice none 0 0) 94) (below_draw' _)) hb5)) | (have HB := Lib.hid (Box2.below (box2_new _ _ _ _) hb5)) | skip))
          | (go_split_ands; go_at_call 49; refine (HWh.out _ _ (by exact .inr rfl)).mono ?_; rintro e w6 ⟨v6, rfl, hd6, hb6⟩; have hz2 : Hid (ZAt w6 v6 false r2) := Lib.hid (hd6.elim (fun h => absurd h.1 (by omega)) (fun h => h.2)); have hz3 : Hid (ZAt w6 v5 false r1) := (by first | exact Lib.hid (hz1.out.below hb6) | exact Lib.hid ((hz1.out.below (below_alloc' _ _)).below hb6)); clear hd6; have HR6 : Hid (RndS w w6 sg P L G I Q A n c a) := Lib.hid (RndS.belowH (by assumption) hb6); (first | (have HB := Lib.hid (HB.out.below hb6)) | (have HB : Hid (Box2 w6 w2.heap.size (.bool false) (.slice none 0 0)) := Lib.hid (Box2.below (Box2.below (box2_new w2 (.bool false) (.slice none 0 0) 94) (below_draw' _)) hb6)) | (have HB := Lib.hid (Box2.below (box2_new _ _ _ _) hb6)) | skip))
          | (go_split_ands; go_at_call 48; refine (HAd.out _ _ _ (by first | exact hz3.out | exact hz3.out.below (below_alloc' _ _)) (by first | exact hz2.out | exact hz2.out.below (below_alloc' _ _))).mono ?_; rintro e w7 ⟨v7, rfl, hd7, hb7⟩; obtain ⟨s7, rfl, h7⟩ := hd7; obtain ⟨A7, c7, rfl, g1, g2, g3⟩ := id h7; have HD7 := Lib.hid h7; clear g1 g2 g3 h7; have HR7 : Hid (RndS w w7 sg P L G I Q A n c a) := Lib.hid (RndS.belowH (by assumption) hb7); (first | (have HB := Lib.hid (HB.out.below hb7)) | (have HB : Hid (Box2 w7 w2.heap.size (.bool false) (.slice none 0 0)) := Lib.hid (Box2.below (Box2.below (box2_new w2 (.bool false) (.slice none 0 0) 94) (below_draw' _)) hb7)) | (have HB := Lib.hid (Box2.below (box2_new _ _ _ _) hb7)) | skip); (first | obtain ⟨g0, g1, f0, f1, f2⟩ := HB.out | skip)))
      all_goals (go_wp2_with fail; go_meet; first | exact ⟨_, A7, _, c7, rfl, Rnd8.fresh _ HR7 HD7⟩ | exact ⟨_, A7, _, c7, rfl, Rnd8.stored HR7 HB HR6.out.sz HD7⟩ | exact ⟨_, A7, _, c7, rfl, Rnd8.stored HR7 HB HR5.out.sz HD7⟩ | exact ⟨_, A7, _, c7, rfl, Rnd8.stored HR7 HB HK2.out.sz HD7⟩)
    case rest =>
      obtain ⟨g, A7, n7, c7, rfl, HK8⟩ := hcut
      have HKX := Lib.hid (HK8.out.below (below_draw' _))
      go_wp2_with fail
      go_region_held3 (fun w' => w'.cell? ⟨w.heap.size, 2, none⟩ = some (.int .i64 L) ∧ w'.cell? ⟨g, 0, none⟩ = some (.bool false) ∧ w'.cell? ⟨g, 1, none⟩ = some (.slice A7 n7 c7) ∧ Hid (Rnd8 w w' sg P L G I Q A n c a g A7 n7 c7 q))
        (first | exact HKX.out.conj | (go_split_ands; exact (Rnd8.belowH (by assumption) hb10).conj) | (go_split_ands; exact (Rnd8.belowH (by assumption) hb9).conj))
        (first
          | (go_split_ands; go_at_call 51; refine (HMk.out _ _ (Lib.hid (RndS.da (Rnd8.r (Hid.out (by assumption)))))).mono ?_; rintro e w9 ⟨s9, rfl, hd9, hb9⟩; have HD9 := Lib.hid hd9; clear hd9)
          | (go_split_ands; go_at_call 50; refine (HHo.out _ _ _ ⟨_, rfl, HD9.out⟩ ⟨_, rfl, Rnd8.dq (Hid.out (by assumption))⟩).mono ?_; rintro e w10 ⟨rfl, hb10⟩))
      have HK9 : Hid (Rnd8 w w10 sg P L G I Q A n c a g A7 n7 c7 q) := Lib.hid (by go_split_ands; exact Rnd8.belowH (by assumption) hb10)
      clear hb9 hb10
      have x4 := HK9.out.r.x4
      have hR := HR.out
      have hI1 := HI.out
      have hS1 := HS.out
      by_cases g1 : 0 < ci
      · have HR2 := Lib.hid (show ((rdN f E a x : Nat) : Int) = min ((s : Int) + 1) I by rw [hR, if_pos (.inl g1)]; omega)
        clear hR hI1 hS1
        go_wp2
        go_ret
        exact ⟨by rw [HR2.out]; rfl, HK9.out.r.bl⟩
      · by_cases g2 : ci = 0
        · subst g2
          by_cases g3 : s % 2 = 1
          · have HR2 := Lib.hid (show ((rdN f E a x : Nat) : Int) = min ((s : Int) + 1) I by rw [hR, if_pos (.inr ⟨rfl, g3⟩)]; omega)
            have e1 : (s : Int) % 2 = 1 := by omega
            have e2 : (s : Int).tmod 2 = 1 := by rw [Int.tmod_eq_emod_of_nonneg (by omega)]; exact e1
            clear hR hI1 hS1 g1 g3
            go_wp2
            go_ret
            exact ⟨by rw [HR2.out]; rfl, HK9.out.r.bl⟩
          · have HR2 := Lib.hid (show ((rdN f E a x : Nat) : Int) = min (s : Int) I by rw [hR, if_neg (fun h => h.elim g1 (fun h => g3 h.2))]; omega)
            have e1 : (s : Int) % 2 = 0 := by omega
            have e2 : (s : Int).tmod 2 = 0 := by rw [Int.tmod_eq_emod_of_nonneg (by omega)]; exact e1
            clear hR hI1 hS1 g1 g3
            go_wp2
            go_ret
            exact ⟨by rw [HR2.out]; rfl, HK9.out.r.bl⟩
        · have HR2 := Lib.hid (show ((rdN f E a x : Nat) : Int) = min (s : Int) I by rw [hR, if_neg (fun h => h.elim g1 (fun h => g2 h.1))]; omega)
          have e0 : (ci == 0) = false := by rw [beq_eq_false_iff_ne]; exact g2
          clear hR hI1 hS1
          go_wp2
          go_ret
          exact ⟨by rw [HR2.out]; rfl, HK9.out.r.bl⟩
end Go.Proofs.YtooehlneoboenaaGreatDoor

namespace Go.Proofs.YtooehlneoboenaaGreatDoor
open Go.RowKit

set_option maxRecDepth 100000 in
theorem rround_low (sg P L G I Q : Int) (v : Value) (a : Nat) (x : Int) (w : World) (h : DgAt w v a) (hb : blen a ≤ 16000) (hx : -1099511644000 ≤ x) (hx2 : x ≤ 1099511627776) (h1 : a = 0 ∨ (blen a : Int) + x < L) :
    Calls Tryz.prog 23 #[.agg #[.int .u64 sg, .int .i64 P, .int .i64 L, .int .i64 G, .int .u64 I, .int .u64 Q], v, .int .i64 x] w fun e w' => e = .returned (.int .u64 0) ∧ Below w.heap.size w w' := by
  have hw0 := below_alloc' w (.cells #[.int .u64 sg, .int .i64 P, .int .i64 L, .int .i64 G, .int .u64 I, .int .u64 Q] 58)
  have hla : (toD a).length ≤ 501 := tdl2 (by omega)
  have HBt := Lib.hid (rbits_walk v a _ (h.below hw0) (by omega))
  obtain ⟨t, ht⟩ : ∃ t, blen a = t := ⟨_, rfl⟩
  rw [ht] at HBt hb h1
  obtain ⟨T, hT⟩ : ∃ T : Int, (t : Int) + x = T := ⟨_, rfl⟩
  rw [hT] at h1
  have p5 : IntKind.i64.wrap ((t : Int) + x) = T := by rw [IntKind.wrap_i64]; omega
  obtain ⟨A, c, rfl, hc, hz, hr⟩ := id h
  have HW := Lib.hid hw0
  have hn0 : (((toD a).length : Int) == 0) = true ∨ ((((toD a).length : Int) == 0) = false ∧ T < L) := by
    by_cases h0 : a = 0
    · left; rw [h0, (toD_length_zero 0).2 rfl]; rfl
    · right
      have h3 : (toD a).length ≠ 0 := fun e => h0 ((toD_length_zero a).1 e)
      exact ⟨by rw [beq_eq_false_iff_ne]; omega, h1.resolve_left h0⟩
  obtain ⟨n, hn⟩ : ∃ n, (toD a).length = n := ⟨_, rfl⟩
  rw [hn] at hn0 HBt
  rw [hn]
  clear hr hz hc hla hb hx hx2 h1 hT ht hn h hw0
  rcases hn0 with hn0 | ⟨hn0, hT⟩
  all_goals
    go_enter Tryz.func23, Tryz.ntmps23
    go_wp2_with fail
    refine HBt.out.mono ?_
    rintro e w1 ⟨rfl, rfl⟩
    go_wp2
    go_ret
    exact ⟨rfl, HW.out⟩

set_option maxRecDepth 100000 in
theorem rround_high (sg P L G I Q E : Int) (hE : G + P = E) (hE1 : -5000 ≤ E) (hE2 : E ≤ 5000) (v : Value) (a : Nat) (x : Int) (w : World) (h : DgAt w v a) (hb : blen a ≤ 16000) (hx : -1099511644000 ≤ x) (hx2 : x ≤ 1099511627776) (h0 : a ≠ 0) (h1 : L ≤ (blen a : Int) + x) (h2 : E < (blen a : Int) + x) :
    Calls Tryz.prog 23 #[.agg #[.int .u64 sg, .int .i64 P, .int .i64 L, .int .i64 G, .int .u64 I, .int .u64 Q], v, .int .i64 x] w fun e w' => e = .returned (.int .u64 I) ∧ Below w.heap.size w w' := by
  have hw0 := below_alloc' w (.cells #[.int .u64 sg, .int .i64 P, .int .i64 L, .int .i64 G, .int .u64 I, .int .u64 Q] 58)
  have hla : (toD a).length ≤ 501 := tdl2 (by omega)
  have HBt := Lib.hid (rbits_walk v a _ (h.below hw0) (by omega))
  obtain ⟨t, ht⟩ : ∃ t, blen a = t := ⟨_, rfl⟩
  rw [ht] at HBt hb h1 h2
  obtain ⟨T, hT⟩ : ∃ T : Int, (t : Int) + x = T := ⟨_, rfl⟩
  rw [hT] at h1 h2
  have p5 : IntKind.i64.wrap ((t : Int) + x) = T := by rw [IntKind.wrap_i64]; omega
  have p6 : IntKind.i64.wrap (G + P) = E := by rw [IntKind.wrap_i64, hE]; omega
  obtain ⟨A, c, rfl, hc, hz, hr⟩ := id h
  have HW := Lib.hid hw0
  have hn0 : (((toD a).length : Int) == 0) = false := by
    have h3 : (toD a).length ≠ 0 := fun e => h0 ((toD_length_zero a).1 e)
    rw [beq_eq_false_iff_ne]; omega
  obtain ⟨n, hn⟩ : ∃ n, (toD a).length = n := ⟨_, rfl⟩
  rw [hn] at hn0 HBt
  rw [hn]
  clear hr hz hc hla hb hx hx2 hT ht hn h hw0 hE hE1 hE2 h0
  go_enter Tryz.func23, Tryz.ntmps23
  go_wp2_with fail
  refine HBt.out.mono ?_
  rintro e w1 ⟨rfl, rfl⟩
  go_wp2
  go_ret
  exact ⟨rfl, HW.out⟩

theorem vp_parts_S (s : Nat) (hs : s ≤ 2139095040) : ∃ d : Nat, ptE 8388608 (-149) s - (-149) = (d : Int) ∧ d ≤ 2200 ∧ blen (ptM 8388608 s) ≤ 53 ∧ vP fmS s = ptM 8388608 s * 2 ^ d := by
  have hv : vP fmS s = if s < 8388608 then s else (8388608 + s % 8388608) * 2 ^ (s / 8388608 - 1) := rfl
  rw [hv]
  unfold ptM ptE
  by_cases h : s < 8388608
  · have h1 : s / 8388608 = 0 := by omega
    refine ⟨0, ?_, by omega, ?_, ?_⟩
    · rw [if_pos h1]; omega
    · rw [if_pos h1]; exact blen_le.2 (by omega)
    · rw [if_pos h1, if_pos h]; omega
  · have h1 : s / 8388608 ≠ 0 := by omega
    refine ⟨s / 8388608 - 1, ?_, by omega, ?_, ?_⟩
    · rw [if_neg h1]; omega
    · rw [if_neg h1]; exact blen_le.2 (by omega)
    · rw [if_neg h1, if_neg h]
theorem rwhole_S (z : Int) (s : Nat) (w : World) (hz : z = (s : Int)) (hs : s ≤ fmS.inf) : Calls Tryz.prog 49 #[.agg #[.int .u64 2147483648, .int .i64 24, .int .i64 (-149), .int .i64 104, .int .u64 2139095040, .int .u64 2143289345], .int .u64 z] w fun e w' => ∃ v', e = .returned v' ∧ ZAt w' v' false (vP fmS s) ∧ Below w.heap.size w w' := by
  subst hz
  have hs : s ≤ 2139095040 := hs
  obtain ⟨d, h1, h2, h3, h4⟩ := vp_parts_S s hs
  rw [h4]
  refine rwhole_gen 2147483648 24 (-149) 104 2139095040 2143289345 s _ d _ (fun w => ?_) (rparts_S s (by omega)) h1 h2 h3 w
  have := rcut_S s (by omega) w
  rw [decide_eq_false (by omega), Nat.mod_eq_of_lt (by omega)] at this
  exact this
theorem vp_inf_S : vP fmS fmS.inf = 2 ^ 277 := by
  have hv : ∀ s, vP fmS s = if s < 8388608 then s else (8388608 + s % 8388608) * 2 ^ (s / 8388608 - 1) := fun _ => rfl
  have hi : fmS.inf = 2139095040 := rfl
  obtain ⟨k, hk⟩ : ∃ k : Nat, k = 254 := ⟨_, rfl⟩
  have e3 : 23 + k = 277 := by omega
  rw [hv, hi, if_neg (by omega), show (8388608 + 2139095040 % 8388608 : Nat) = 2 ^ 23 from rfl, show (2139095040 / 8388608 - 1 : Nat) = k by omega, ← Nat.pow_add, e3]
theorem rround_S (v : Value) (a : Nat) (x : Int) (w : World) (h : DgAt w v a) (hb : blen a ≤ 16000) (hx : -1099511644000 ≤ x) (hx2 : x ≤ 1099511627776) :
    Calls Tryz.prog 23 #[.agg #[.int .u64 2147483648, .int .i64 24, .int .i64 (-149), .int .i64 104, .int .u64 2139095040, .int .u64 2143289345], v, .int .i64 x] w fun e w' => e = .returned (.int .u64 ((hxPat fmS a x : Nat) : Int)) ∧ Below w.heap.size w w' := by
  have hok : fmS.ok := by first | exact .inl rfl | exact .inr rfl
  have hfL : fmS.L = (-149) := rfl
  have hrd : rdN fmS 128 a x = hxPat fmS a x := rdN_pat hok 128 277 vp_inf_S (by rw [hfL]; omega) a x
  rw [← hrd]
  by_cases h1 : a = 0 ∨ (blen a : Int) + x < (-149)
  · have hv : rdN fmS 128 a x = 0 := by unfold rdN; rw [hfL, if_pos h1]
    rw [hv]
    exact rround_low 2147483648 24 (-149) 104 2139095040 2143289345 v a x w h hb hx hx2 h1
  · have h0 : a ≠ 0 := fun e => h1 (.inl e)
    have h2 : (-149) ≤ (blen a : Int) + x := by
      have h3 : ¬ (blen a : Int) + x < (-149) := fun e => h1 (.inr e)
      omega
    by_cases h3 : 128 < (blen a : Int) + x
    · have hv : rdN fmS 128 a x = 2139095040 := by unfold rdN; rw [hfL, if_neg h1, if_pos h3]; rfl
      rw [hv]
      exact rround_high 2147483648 24 (-149) 104 2139095040 2143289345 128 (by omega) (by omega) (by omega) v a x w h hb hx hx2 h0 h2 h3
    · exact rround_main fmS 2147483648 24 (-149) 104 2139095040 2143289345 128 277 (by decide) rfl (by omega) rfl vp_inf_S (by omega) (by omega) (by omega) (by omega) (by omega) (by omega)
        (fun v m w h hm => rsize_S 2147483648 2139095040 2143289345 v m w h hm) (fun z s w hz hs => rwhole_S z s w hz hs) v a x w h hb h0 h2 (by omega)

theorem vp_parts_D (s : Nat) (hs : s ≤ 9218868437227405312) : ∃ d : Nat, ptE 4503599627370496 (-1074) s - (-1074) = (d : Int) ∧ d ≤ 2200 ∧ blen (ptM 4503599627370496 s) ≤ 53 ∧ vP fmD s = ptM 4503599627370496 s * 2 ^ d := by
  have hv : vP fmD s = if s < 4503599627370496 then s else (4503599627370496 + s % 4503599627370496) * 2 ^ (s / 4503599627370496 - 1) := rfl
  rw [hv]
  unfold ptM ptE
  by_cases h : s < 4503599627370496
  · have h1 : s / 4503599627370496 = 0 := by omega
    refine ⟨0, ?_, by omega, ?_, ?_⟩
    · rw [if_pos h1]; omega
    · rw [if_pos h1]; exact blen_le.2 (by omega)
    · rw [if_pos h1, if_pos h]; omega
  · have h1 : s / 4503599627370496 ≠ 0 := by omega
    refine ⟨s / 4503599627370496 - 1, ?_, by omega, ?_, ?_⟩
    · rw [if_neg h1]; omega
    · rw [if_neg h1]; exact blen_le.2 (by omega)
    · rw [if_neg h1, if_neg h]
theorem rwhole_D (z : Int) (s : Nat) (w : World) (hz : z = (s : Int)) (hs : s ≤ fmD.inf) : Calls Tryz.prog 49 #[.agg #[.int .u64 9223372036854775808, .int .i64 53, .int .i64 (-1074), .int .i64 971, .int .u64 9218868437227405312, .int .u64 9221120237041090561], .int .u64 z] w fun e w' => ∃ v', e = .returned v' ∧ ZAt w' v' false (vP fmD s) ∧ Below w.heap.size w w' := by
  subst hz
  have hs : s ≤ 9218868437227405312 := hs
  obtain ⟨d, h1, h2, h3, h4⟩ := vp_parts_D s hs
  rw [h4]
  refine rwhole_gen 9223372036854775808 53 (-1074) 971 9218868437227405312 9221120237041090561 s _ d _ (fun w => ?_) (rparts_D s (by omega)) h1 h2 h3 w
  have := rcut_D s (by omega) w
  rw [decide_eq_false (by omega), Nat.mod_eq_of_lt (by omega)] at this
  exact this
theorem vp_inf_D : vP fmD fmD.inf = 2 ^ 2098 := by
  have hv : ∀ s, vP fmD s = if s < 4503599627370496 then s else (4503599627370496 + s % 4503599627370496) * 2 ^ (s / 4503599627370496 - 1) := fun _ => rfl
  have hi : fmD.inf = 9218868437227405312 := rfl
  obtain ⟨k, hk⟩ : ∃ k : Nat, k = 2046 := ⟨_, rfl⟩
  have e3 : 52 + k = 2098 := by omega
  rw [hv, hi, if_neg (by omega), show (4503599627370496 + 9218868437227405312 % 4503599627370496 : Nat) = 2 ^ 52 from rfl, show (9218868437227405312 / 4503599627370496 - 1 : Nat) = k by omega, ← Nat.pow_add, e3]
theorem rround_D (v : Value) (a : Nat) (x : Int) (w : World) (h : DgAt w v a) (hb : blen a ≤ 16000) (hx : -1099511644000 ≤ x) (hx2 : x ≤ 1099511627776) :
    Calls Tryz.prog 23 #[.agg #[.int .u64 9223372036854775808, .int .i64 53, .int .i64 (-1074), .int .i64 971, .int .u64 9218868437227405312, .int .u64 9221120237041090561], v, .int .i64 x] w fun e w' => e = .returned (.int .u64 ((hxPat fmD a x : Nat) : Int)) ∧ Below w.heap.size w w' := by
  have hok : fmD.ok := by first | exact .inl rfl | exact .inr rfl
  have hfL : fmD.L = (-1074) := rfl
  have hrd : rdN fmD 1024 a x = hxPat fmD a x := rdN_pat hok 1024 2098 vp_inf_D (by rw [hfL]; omega) a x
  rw [← hrd]
  by_cases h1 : a = 0 ∨ (blen a : Int) + x < (-1074)
  · have hv : rdN fmD 1024 a x = 0 := by unfold rdN; rw [hfL, if_pos h1]
    rw [hv]
    exact rround_low 9223372036854775808 53 (-1074) 971 9218868437227405312 9221120237041090561 v a x w h hb hx hx2 h1
  · have h0 : a ≠ 0 := fun e => h1 (.inl e)
    have h2 : (-1074) ≤ (blen a : Int) + x := by
      have h3 : ¬ (blen a : Int) + x < (-1074) := fun e => h1 (.inr e)
      omega
    by_cases h3 : 1024 < (blen a : Int) + x
    · have hv : rdN fmD 1024 a x = 9218868437227405312 := by unfold rdN; rw [hfL, if_neg h1, if_pos h3]; rfl
      rw [hv]
      exact rround_high 9223372036854775808 53 (-1074) 971 9218868437227405312 9221120237041090561 1024 (by omega) (by omega) (by omega) v a x w h hb hx hx2 h0 h2 h3
    · exact rround_main fmD 9223372036854775808 53 (-1074) 971 9218868437227405312 9221120237041090561 1024 2098 (by decide) rfl (by omega) rfl vp_inf_D (by omega) (by omega) (by omega) (by omega) (by omega) (by omega)
        (fun v m w h hm => rsize_D 9223372036854775808 9218868437227405312 9221120237041090561 v m w h hm) (fun z s w hz hs => rwhole_D z s w hz hs) v a x w h hb h0 h2 (by omega)
end Go.Proofs.YtooehlneoboenaaGreatDoor

namespace Go.Proofs.YtooehlneoboenaaGreatDoor
open Go.RowKit

/-- What the reference's Parse answers. -/
def docP (f : Fm) (l : List UInt8) : Nat := if l.length ≤ 4000 then (docO f l).getD 0 else 0
def docE (f : Fm) (l : List UInt8) : Int := if l.length ≤ 4000 then (if (docO f l).isSome then 0 else 8) else 7
theorem size_bs (l : List UInt8) : (bs l).size = l.length := bs_size l
theorem eq_bs (l m : List UInt8) (h : l = m) : ((bs l).toList == m) = true := by rw [bs_list, h]; simp
theorem ne_bs (l m : List UInt8) (h : l ≠ m) : ((bs l).toList == m) = false := by rw [bs_list]; simpa using h

set_option maxRecDepth 100000 in
set_option maxHeartbeats 2000000 in
theorem rdoc_gen (f : Fm) (F : Int) (sg P L G I Q : Int) (hsg : ((2 ^ f.S : Nat) : Int) = sg) (hIf : (f.inf : Int) = I) (hQf : (f.quiet : Int) = Q) (hsI : sg + I < 18446744073709551616) (hsg0 : 0 ≤ sg)
    (hOf : ∀ w, Calls Tryz.prog 20 #[.int .i64 F] w fun e w' => e = .returned (.tuple #[.agg #[.int .u64 sg, .int .i64 P, .int .i64 L, .int .i64 G, .int .u64 I, .int .u64 Q], .bool true]) ∧ Below w.heap.size w w')
    (hRd : ∀ (v : Value) (a : Nat) (x : Int) (w : World), DgAt w v a → blen a ≤ 16000 → -1099511644000 ≤ x → x ≤ 1099511627776 → Calls Tryz.prog 23 #[.agg #[.int .u64 sg, .int .i64 P, .int .i64 L, .int .i64 G, .int .u64 I, .int .u64 Q], v, .int .i64 x] w fun e w' => e = .returned (.int .u64 ((hxPat f a x : Nat) : Int)) ∧ Below w.heap.size w w')
    (l : List UInt8) (hl : l.length ≤ 9223372036854775807) (w : World) :
    Calls Tryz.prog 10 #[.int .i64 F, .string (bs l)] w fun e w' => e = .returned (.tuple #[.int .u64 ((docP f l : Nat) : Int), .int .i64 (docE f l)]) ∧ Below w.heap.size w w' := by
  have HOf := Lib.hid hOf
  rcases Nat.lt_or_ge 4000 l.length with h5 | h4
  · have h4 : ¬ l.length ≤ 4000 := by omega
    have HR := Lib.hid (show docP f l = 0 ∧ docE f l = 7 by unfold docP docE; rw [if_neg h4, if_neg h4]; exact ⟨rfl, rfl⟩)
    have hsz : (4000 : Int) < ((bs l).size : Int) := by rw [bs_size]; omega
    clear hl h4 h5 hsg hIf hQf hsI hsg0 hRd hOf
    generalize bs l = s at *
    go_enter Tryz.func10, Tryz.ntmps10
    go_wp2_with fail
    refine (HOf.out _).mono ?_
    rintro e w1 ⟨rfl, hb1⟩
    have HW := Lib.hid (below_chain hb1 (below_alloc' w1 (.cells #[.int .u64 sg, .int .i64 P, .int .i64 L, .int .i64 G, .int .u64 I, .int .u64 Q] 58)))
    clear hb1
    go_wp2
    go_ret2
    exact ⟨by rw [HR.out.1, HR.out.2]; rfl, HW.out⟩
  have hsz : ((bs l).size : Int) ≤ 4000 := by rw [bs_size]; omega
  by_cases hnan : l = [110, 97, 110]
  · have hO : docO f l = some f.quiet := by unfold docO; rw [if_pos hnan]
    have HR := Lib.hid (show ((docP f l : Nat) : Int) = Q ∧ docE f l = 0 by unfold docP docE; rw [if_pos h4, if_pos h4, hO]; exact ⟨hQf, rfl⟩)
    have hn := eq_bs l _ hnan
    clear hl h4 hsg hIf hQf hsI hsg0 hRd hOf hO hnan
    generalize bs l = s at *
    go_enter Tryz.func10, Tryz.ntmps10
    go_wp2_with fail
    refine (HOf.out _).mono ?_
    rintro e w1 ⟨rfl, hb1⟩
    have HW := Lib.hid (below_chain hb1 (below_alloc' w1 (.cells #[.int .u64 sg, .int .i64 P, .int .i64 L, .int .i64 G, .int .u64 I, .int .u64 Q] 58)))
    clear hb1
    go_wp2
    go_ret2
    exact ⟨by rw [HR.out.1, HR.out.2]; rfl, HW.out⟩
  have hn := ne_bs l _ hnan
  have HSg := Lib.hid (fun w => rsigned_walk l (by omega) w)
  have hlR : (sgT l).length ≤ 4000 := by
    have := congrArg List.length (sg_split l)
    rw [List.length_append] at this
    omega
  obtain ⟨m, hm⟩ : ∃ m, sgM l = m := ⟨_, rfl⟩
  rw [hm] at HSg
  obtain ⟨R, hRe⟩ : ∃ R, sgT l = R := ⟨_, rfl⟩
  rw [hRe] at HSg hlR
  obtain ⟨mi, hmi⟩ : ∃ mi : Int, (if m then sg else 0) = mi := ⟨_, rfl⟩
  have hmi0 : 0 ≤ mi ∧ mi ≤ sg := by rw [← hmi]; cases m <;> simp <;> omega
  have hsgn : ∀ r : Nat, ((sgn f m r : Nat) : Int) = mi + (r : Int) := fun r => by
    unfold sgn
    rw [← hmi]
    cases m
    · simp
    · simp [← hsg]
  have hI64 : IntKind.u64.wrap (mi + I) = mi + I := by rw [IntKind.wrap_u64]; omega
  by_cases hinf : R = [105, 110, 102]
  · have hO : docO f l = some (sgn f m f.inf) := by unfold docO; rw [if_neg hnan, hRe, if_pos hinf, hm]
    have HR := Lib.hid (show ((docP f l : Nat) : Int) = mi + I ∧ docE f l = 0 by unfold docP docE; rw [if_pos h4, if_pos h4, hO]; exact ⟨by rw [← hIf]; exact hsgn _, rfl⟩)
    have hn2 := eq_bs R _ hinf
    have hmi2 := hmi
    have hI1 : IntKind.u64.wrap (sg + I) = sg + I := by rw [IntKind.wrap_u64]; omega
    have hI2 : IntKind.u64.wrap I = I := by rw [IntKind.wrap_u64]; omega
    have hI3 : IntKind.u64.wrap (0 + I) = I := by rw [IntKind.wrap_u64]; omega
    clear hl h4 hsg hIf hQf hsI hsg0 hRd hOf hO hnan hinf hI64 hmi0 hsgn hmi hlR hRe hm
    generalize bs l = s at *
    generalize bs R = u at *
    cases m
    all_goals
      first | rw [if_pos rfl] at hmi2 | rw [if_neg (by decide)] at hmi2
      have HM := Lib.hid hmi2
      clear hmi2
      go_enter Tryz.func10, Tryz.ntmps10
      go_wp2_with fail
      refine (HOf.out _).mono ?_
      rintro e w1 ⟨rfl, hb1⟩
      have HW := Lib.hid (below_chain hb1 (below_alloc' w1 (.cells #[.int .u64 sg, .int .i64 P, .int .i64 L, .int .i64 G, .int .u64 I, .int .u64 Q] 58)))
      clear hb1
      go_wp2_with fail
      refine (HSg.out _).mono ?_
      rintro e w2 ⟨rfl, hb2⟩
      have x0 : w2.cell? ⟨w1.heap.size, 0, none⟩ = some (.int .u64 sg) := cell_kept hb2 (by simp)
      have x1 : w2.cell? ⟨w1.heap.size, 1, none⟩ = some (.int .i64 P) := cell_kept hb2 (by simp)
      have x2 : w2.cell? ⟨w1.heap.size, 2, none⟩ = some (.int .i64 L) := cell_kept hb2 (by simp)
      have x3 : w2.cell? ⟨w1.heap.size, 3, none⟩ = some (.int .i64 G) := cell_kept hb2 (by simp)
      have x4 : w2.cell? ⟨w1.heap.size, 4, none⟩ = some (.int .u64 I) := cell_kept hb2 (by simp)
      have x5 : w2.cell? ⟨w1.heap.size, 5, none⟩ = some (.int .u64 Q) := cell_kept hb2 (by simp)
      have HW2 := Lib.hid (below_chain HW.out hb2)
      clear hb2
      go_wp2
      go_ret2
      exact ⟨by rw [HR.out.1, HR.out.2, ← HM.out]; first | rfl | (rw [Int.zero_add]; rfl), HW2.out⟩
  have hn2 := ne_bs R _ hinf
  have HNu := Lib.hid (fun w => rnumber_walk R hlR w)
  have hO : docO f l = match rfNum R with | none => none | some v => some (sgn f m (hxPat f v.1 v.2)) := by unfold docO; rw [if_neg hnan, hRe, if_neg hinf, hm]; rfl
  cases hrf : rfNum R with
  | none =>
    rw [hrf] at hO
    have HR := Lib.hid (show docP f l = 0 ∧ docE f l = 8 by unfold docP docE; rw [if_pos h4, if_pos h4, hO]; exact ⟨rfl, rfl⟩)
    have HNu2 := Lib.hid (fun w => show Calls Tryz.prog 22 #[.string (bs R)] w fun e w' => e = .returned (.tuple #[.slice none 0 0, .int .i64 0, .bool false]) ∧ Below w.heap.size w w' from by
      refine (HNu.out w).mono ?_
      rintro e w' (⟨a, x, v', h, _⟩ | ⟨_, h, hb⟩)
      · rw [hrf] at h; cases h
      · exact ⟨h, hb⟩)
    clear hl h4 hsg hIf hQf hsI hsg0 hRd hOf hO hnan hinf hI64 hmi0 hsgn hmi hlR hRe hm HNu hrf
    generalize bs l = s at *
    generalize bs R = u at *
    cases m
    all_goals
      go_enter Tryz.func10, Tryz.ntmps10
      go_wp2_with fail
      refine (HOf.out _).mono ?_
      rintro e w1 ⟨rfl, hb1⟩
      have HW := Lib.hid (below_chain hb1 (below_alloc' w1 (.cells #[.int .u64 sg, .int .i64 P, .int .i64 L, .int .i64 G, .int .u64 I, .int .u64 Q] 58)))
      clear hb1
      go_wp2_with fail
      refine (HSg.out _).mono ?_
      rintro e w2 ⟨rfl, hb2⟩
      have x0 : w2.cell? ⟨w1.heap.size, 0, none⟩ = some (.int .u64 sg) := cell_kept hb2 (by simp)
      have x1 : w2.cell? ⟨w1.heap.size, 1, none⟩ = some (.int .i64 P) := cell_kept hb2 (by simp)
      have x2 : w2.cell? ⟨w1.heap.size, 2, none⟩ = some (.int .i64 L) := cell_kept hb2 (by simp)
      have x3 : w2.cell? ⟨w1.heap.size, 3, none⟩ = some (.int .i64 G) := cell_kept hb2 (by simp)
      have x4 : w2.cell? ⟨w1.heap.size, 4, none⟩ = some (.int .u64 I) := cell_kept hb2 (by simp)
      have x5 : w2.cell? ⟨w1.heap.size, 5, none⟩ = some (.int .u64 Q) := cell_kept hb2 (by simp)
      have HW2 := Lib.hid (below_chain HW.out hb2)
      clear hb2
      go_wp2_with fail
      refine (HNu2.out _).mono ?_
      rintro e w3 ⟨rfl, hb3⟩
      have HW3 := Lib.hid (below_chain HW2.out hb3)
      clear hb3
      go_wp2
      go_ret2
      exact ⟨by rw [HR.out.1, HR.out.2]; rfl, HW3.out⟩
  | some v =>
    obtain ⟨a, x⟩ := v
    rw [hrf] at hO
    obtain ⟨b1, b2, b3⟩ := rf_len hlR hrf
    have hpl : hxPat f a x ≤ f.inf := hxPat_le f a x
    obtain ⟨r, hr⟩ : ∃ r, hxPat f a x = r := ⟨_, rfl⟩
    simp only [hr] at hO hpl
    have HR := Lib.hid (show ((docP f l : Nat) : Int) = mi + (r : Int) ∧ docE f l = 0 by unfold docP docE; rw [if_pos h4, if_pos h4, hO]; exact ⟨hsgn _, rfl⟩)
    have HNu2 := Lib.hid (fun w => show Calls Tryz.prog 22 #[.string (bs R)] w fun e w' => ∃ v', e = .returned (.tuple #[v', .int .i64 x, .bool true]) ∧ DgAt w' v' a ∧ Below w.heap.size w w' from by
      refine (HNu.out w).mono ?_
      rintro e w' (⟨a', x', v', h, h2, h3, h5⟩ | ⟨h, _⟩)
      · rw [hrf] at h
        injection h with h
        injection h with ha hx
        subst ha; subst hx
        exact ⟨v', h2, h3, h5⟩
      · rw [hrf] at h; cases h)
    have hRd2 := fun (v : Value) (w : World) (h : DgAt w v a) => hRd v a x w h b1 b2 b3
    simp only [hr] at hRd2
    have HRd := Lib.hid hRd2
    have hmi2 := hmi
    have hI1 : IntKind.u64.wrap (sg + (r : Int)) = sg + (r : Int) := by rw [IntKind.wrap_u64]; omega
    have hI2 : IntKind.u64.wrap (r : Int) = (r : Int) := by rw [IntKind.wrap_u64]; omega
    have hI3 : IntKind.u64.wrap (0 + (r : Int)) = (r : Int) := by rw [IntKind.wrap_u64]; omega
    clear hl h4 hsg hIf hQf hsI hsg0 hRd hRd2 hOf hO hnan hinf hI64 hmi0 hsgn hmi hlR hRe hm HNu hrf b1 b2 b3 hpl hr
    generalize bs l = s at *
    generalize bs R = u at *
    cases m
    all_goals
      first | rw [if_pos rfl] at hmi2 | rw [if_neg (by decide)] at hmi2
      have HM := Lib.hid hmi2
      clear hmi2
      go_enter Tryz.func10, Tryz.ntmps10
      go_wp2_with fail
      refine (HOf.out _).mono ?_
      rintro e w1 ⟨rfl, hb1⟩
      have HW := Lib.hid (below_chain hb1 (below_alloc' w1 (.cells #[.int .u64 sg, .int .i64 P, .int .i64 L, .int .i64 G, .int .u64 I, .int .u64 Q] 58)))
      clear hb1
      go_wp2_with fail
      refine (HSg.out _).mono ?_
      rintro e w2 ⟨rfl, hb2⟩
      have x0 : w2.cell? ⟨w1.heap.size, 0, none⟩ = some (.int .u64 sg) := cell_kept hb2 (by simp)
      have x1 : w2.cell? ⟨w1.heap.size, 1, none⟩ = some (.int .i64 P) := cell_kept hb2 (by simp)
      have x2 : w2.cell? ⟨w1.heap.size, 2, none⟩ = some (.int .i64 L) := cell_kept hb2 (by simp)
      have x3 : w2.cell? ⟨w1.heap.size, 3, none⟩ = some (.int .i64 G) := cell_kept hb2 (by simp)
      have x4 : w2.cell? ⟨w1.heap.size, 4, none⟩ = some (.int .u64 I) := cell_kept hb2 (by simp)
      have x5 : w2.cell? ⟨w1.heap.size, 5, none⟩ = some (.int .u64 Q) := cell_kept hb2 (by simp)
      have HW2 := Lib.hid (below_chain HW.out hb2)
      clear hb2
      go_wp2_with fail
      refine (HNu2.out _).mono ?_
      rintro e w3 ⟨v3, rfl, hd3, hb3⟩
      have y0 : w3.cell? ⟨w1.heap.size, 0, none⟩ = some (.int .u64 sg) := cell_kept hb3 x0
      have y1 : w3.cell? ⟨w1.heap.size, 1, none⟩ = some (.int .i64 P) := cell_kept hb3 x1
      have y2 : w3.cell? ⟨w1.heap.size, 2, none⟩ = some (.int .i64 L) := cell_kept hb3 x2
      have y3 : w3.cell? ⟨w1.heap.size, 3, none⟩ = some (.int .i64 G) := cell_kept hb3 x3
      have y4 : w3.cell? ⟨w1.heap.size, 4, none⟩ = some (.int .u64 I) := cell_kept hb3 x4
      have y5 : w3.cell? ⟨w1.heap.size, 5, none⟩ = some (.int .u64 Q) := cell_kept hb3 x5
      have HW3 := Lib.hid (below_chain HW2.out hb3)
      have HD3 := Lib.hid hd3
      clear hb3 hd3 x0 x1 x2 x3 x4 x5
      go_wp2_with fail
      refine (HRd.out _ _ HD3.out).mono ?_
      rintro e w4 ⟨rfl, hb4⟩
      have HW4 := Lib.hid (below_chain HW3.out hb4)
      clear hb4
      go_wp2
      go_ret2
      exact ⟨by rw [HR.out.1, HR.out.2, ← HM.out]; first | rfl | (rw [Int.zero_add]; rfl), HW4.out⟩

set_option maxRecDepth 100000 in
theorem rdoc_no (F : Int) (h1 : F ≠ 32) (h2 : F ≠ 64) (s : ByteArray) (w : World) :
    Calls Tryz.prog 10 #[.int .i64 F, .string s] w fun e w' => e = .returned (.tuple #[.int .u64 0, .int .i64 1]) ∧ Below w.heap.size w w' := by
  have HOf := Lib.hid (fun w => rof07_no F h1 h2 w)
  clear h1 h2
  go_enter Tryz.func10, Tryz.ntmps10
  go_wp2_with fail
  refine (HOf.out _).mono ?_
  rintro e w1 ⟨rfl, hb1⟩
  have hw := below_chain hb1 (below_alloc' w1 (.cells #[.int .u64 0, .int .i64 0, .int .i64 0, .int .i64 0, .int .u64 0, .int .u64 0] 58))
  clear hb1
  go_wp2
  go_ret2
  exact ⟨rfl, hw⟩

theorem rdoc_S (l : List UInt8) (hl : l.length ≤ 9223372036854775807) (w : World) :
    Calls Tryz.prog 10 #[.int .i64 32, .string (bs l)] w fun e w' => e = .returned (.tuple #[.int .u64 ((docP fmS l : Nat) : Int), .int .i64 (docE fmS l)]) ∧ Below w.heap.size w w' :=
  rdoc_gen fmS 32 2147483648 24 (-149) 104 2139095040 2143289345 rfl rfl rfl (by omega) (by omega) rof07_S rround_S l hl w
theorem rdoc_D (l : List UInt8) (hl : l.length ≤ 9223372036854775807) (w : World) :
    Calls Tryz.prog 10 #[.int .i64 64, .string (bs l)] w fun e w' => e = .returned (.tuple #[.int .u64 ((docP fmD l : Nat) : Int), .int .i64 (docE fmD l)]) ∧ Below w.heap.size w w' :=
  rdoc_gen fmD 64 9223372036854775808 53 (-1074) 971 9218868437227405312 9221120237041090561 rfl rfl rfl (by omega) (by omega) rof07_D rround_D l hl w
end Go.Proofs.YtooehlneoboenaaGreatDoor

namespace Go.Proofs.YtooehlneoboenaaGreatDoor
open Go.RowKit

theorem both_parse (f : Int) (s : ByteArray) (hs : s.size ≤ 9223372036854775807) : ∃ p n : Int,
    (∀ w, Tab64 w → Calls Tryz.prog 8 #[.int .i64 f, .string s] w fun e w' => e = .returned (.tuple #[.int .u64 p, .int .i64 n]) ∧ Below w.heap.size w w') ∧
    (∀ w, Calls Tryz.prog 10 #[.int .i64 f, .string s] w fun e w' => e = .returned (.tuple #[.int .u64 p, .int .i64 n]) ∧ Below w.heap.size w w') := by
  obtain ⟨l, rfl⟩ : ∃ l, s = bs l := ⟨s.data.toList, rfl⟩
  have hsz : (bs l).size = l.length := bs_size l
  have hl : l.length ≤ 9223372036854775807 := by omega
  have e1 : ∀ g : Fm, prP g (bs l) = docP g l ∧ prE g (bs l) = docE g l := fun g => by
    unfold prP prE docP docE
    rw [doc_parse, hsz]
    exact ⟨rfl, rfl⟩
  by_cases h1 : f = 32
  · subst h1
    refine ⟨_, _, fun w ht => ?_, fun w => rdoc_S l hl w⟩
    have := parse_walk_S (bs l) w hs ht
    rwa [(e1 fmS).1, (e1 fmS).2] at this
  by_cases h2 : f = 64
  · subst h2
    refine ⟨_, _, fun w ht => ?_, fun w => rdoc_D l hl w⟩
    have := parse_walk_D (bs l) w hs ht
    rwa [(e1 fmD).1, (e1 fmD).2] at this
  · exact ⟨0, 1, fun w _ => parse_no f h1 h2 _ w, fun w => rdoc_no f h1 h2 _ w⟩

set_option maxRecDepth 100000 in
set_option maxHeartbeats 1000000 in
theorem plays_one (f : Int) (s : ByteArray) (hs : s.size ≤ 9223372036854775807) (b : Int) (w : World) (ht : Tab64 w) :
    Calls Tryz.prog 7 #[.agg #[.int .i64 1, .int .i64 f, .string s, .int .u64 b]] w fun e w' => e = .returned (.bool true) ∧ Below w.heap.size w w' := by
  obtain ⟨p, n, hP, hR⟩ := both_parse f s hs
  have HP := Lib.hid hP
  have HR := Lib.hid hR
  have HT := Lib.hid ht
  have hb0 := below_alloc' w (.cells #[.int .i64 1, .int .i64 f, .string s, .int .u64 b] 27)
  have HW0 := Lib.hid hb0
  clear hP hR ht hb0 hs
  go_enter Tryz.func7, Tryz.ntmps7
  go_wp2_with fail
  refine (HP.out _ (HT.out.below HW0.out)).mono ?_
  rintro e w1 ⟨rfl, hb1⟩
  have HW1 := Lib.hid (below_chain HW0.out hb1)
  have y0 : w1.cell? ⟨w.heap.size, 0, none⟩ = some (.int .i64 1) := cell_kept hb1 (by simp)
  have y1 : w1.cell? ⟨w.heap.size, 1, none⟩ = some (.int .i64 f) := cell_kept hb1 (by simp)
  have y2 : w1.cell? ⟨w.heap.size, 2, none⟩ = some (.string s) := cell_kept hb1 (by simp)
  have y3 : w1.cell? ⟨w.heap.size, 3, none⟩ = some (.int .u64 b) := cell_kept hb1 (by simp)
  clear hb1
  go_wp2_with fail
  refine (HR.out _).mono ?_
  rintro e w2 ⟨rfl, hb2⟩
  have HW2 := Lib.hid (below_chain HW1.out hb2)
  clear hb2 y0 y1 y2 y3
  go_wp2
  go_ret
  exact ⟨rfl, HW2.out⟩

set_option maxRecDepth 100000 in
theorem parses_walk (f : Int) (s : ByteArray) (hs : s.size ≤ 9223372036854775807) (w : World) (ht : Tab64 w) (h10 : Tab10 w) :
    Calls Tryz.prog 3 #[.int .i64 f, .string s] w fun e w' => e = .returned (.bool true) ∧ Below w.heap.size w w' := by
  have HP := Lib.hid (fun w ht => plays_one f s hs 0 w ht)
  have HT := Lib.hid ht
  have H10 := Lib.hid h10
  clear ht h10 hs
  go_enter Tryz.func3, Tryz.ntmps3
  go_wp2_with fail
  refine (awake_walk w HT.out H10.out).mono ?_
  rintro e w1 ⟨rfl, hb1⟩
  have HW1 := Lib.hid hb1
  clear hb1
  go_wp2_with fail
  refine (HP.out _ (HT.out.below HW1.out)).mono ?_
  rintro e w2 ⟨rfl, hb2⟩
  go_wp2
  go_ret
  exact ⟨rfl, below_chain HW1.out hb2⟩
end Go.Proofs.YtooehlneoboenaaGreatDoor
