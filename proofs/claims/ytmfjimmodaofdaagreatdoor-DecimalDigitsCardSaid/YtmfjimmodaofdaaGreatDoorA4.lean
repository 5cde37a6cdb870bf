/- Walk of gnomonref01: DivMod. · Walks of gnomonref01: Pow2, Small, Bit (of place 0). -/
import Derived.Test.YtmfjimmodaofdaaGreatDoorA3
import Derived.Deep.RegionHeld3
import Derived.WalkMore
namespace Go.Proofs.YtmfjimmodaofdaaGreatDoor
open Go.RowKit

/-- The numbers of a long division of digits: how many steps, and what is left behind each. -/
theorem cmpD_neg {a b : Nat} : cmpD a b < 0 ↔ a < b := by unfold cmpD; split <;> (try split) <;> omega
theorem longD_steps {U V m n d : Nat} (hd : m - n = d) (hV : V < W32 ^ n) (hV0 : 0 < V) (hU : U < W32 ^ (m - n) * V) :
    ∃ US QS : Nat → Nat, (US d = U ∧ QS d = 0 ∧ US 0 = U % V ∧ QS 0 = U / V) ∧
    ∀ j, j < d → ∃ R, paD m (US (j + 1)) = paD j (US (j + 1)) ++ (paD (n + 1) R ++ paD (m - j - (n + 1)) 0) ∧ paD j (US (j + 1)) ++ (paD (n + 1) (R % V) ++ paD (m - j - (n + 1)) 0) = paD m (US j) ∧ (paD d (QS (j + 1))).set j (R / V) = paD d (QS j) ∧ R < W32 ^ (n + 1) ∧ R < W32 * V := by
  subst hd
  refine ⟨fun j => U % (W32 ^ j * V), fun j => W32 ^ j * (U / (W32 ^ j * V)), ⟨Nat.mod_eq_of_lt hU, by show W32 ^ (m - n) * _ = 0; rw [Nat.div_eq_of_lt hU, Nat.mul_zero], by show U % (W32 ^ 0 * V) = _; rw [Nat.pow_zero, Nat.one_mul], by show W32 ^ 0 * (U / (W32 ^ 0 * V)) = _; rw [Nat.pow_zero, Nat.one_mul, Nat.one_mul]⟩, fun j hj => ?_⟩
  obtain ⟨h1, h2, h3, h4⟩ := longD_pads (m := m) (n := n) (j := j) (U := U) (by omega) hV hV0
  refine ⟨U % (W32 ^ (j + 1) * V) / W32 ^ j, h1, h2, ?_, h3, h4⟩
  show (paD (m - n) (W32 ^ (j + 1) * (U / (W32 ^ (j + 1) * V)))).set j _ = paD (m - n) (W32 ^ j * (U / (W32 ^ j * V)))
  rw [quoD_set hj (by rw [Nat.div_lt_iff_lt_mul hV0]; exact h4), (longD_step U V j hV0).2.1]
theorem toD_one {x : Nat} (h0 : x ≠ 0) (hx : x < W32) : toD x = [x] := by
  rw [toD_pos h0, Nat.mod_eq_of_lt hx, Nat.div_eq_of_lt hx, toD_zero]
theorem toD_small {x : Nat} (h1 : (toD x).length = 1) : x < W32 := by
  have := (toD_length_le x 1).1 (by omega)
  rwa [Nat.pow_one] at this
/-- The last digit alone. -/
theorem LsD.last {w : World} {A : Option Addr} {c b lb : Nat} (h : LsD w (.slice A lb c) (toD b)) (hlb : (toD b).length = lb) (hb : b ≠ 0) : ∃ ad, A = some ad ∧ DgAt w (.slice (some (ad.add (lb - 1))) 1 (c - (lb - 1))) (b / W32 ^ (lb - 1)) ∧ w.cell? (ad.add (lb - 1)) = some (.int .u32 ((b / W32 ^ (lb - 1) : Nat) : Int)) ∧ lb ≤ c := by
  obtain ⟨A2, c2, e, hc, hz, hr⟩ := h
  rw [hlb] at e hc
  cases e
  have hl0 : lb ≠ 0 := fun e => hb ((toD_length_zero b).1 (by omega))
  obtain ⟨ad, rfl, hcl⟩ := hr (by omega)
  have ht := toD_top hb
  have hn := toD_last hb
  rw [hlb] at ht hn
  rw [ht] at hn
  have hlt : b / W32 ^ (lb - 1) < W32 := by rw [← ht]; exact eD_lt (We_toD b) _
  have hck := hcl (lb - 1) (by omega)
  rw [ht] at hck
  refine ⟨ad, rfl, ?_, hck, hc⟩
  unfold DgAt
  rw [toD_one hn hlt]
  refine ⟨_, _, rfl, by simp; omega, (fun e => by cases e), fun _ => ⟨_, rfl, fun j hj => ?_⟩⟩
  simp only [List.length_cons, List.length_nil] at hj
  obtain rfl : j = 0 := by omega
  rw [el_cons_zero]
  simpa [Addr.add] using hck

structure DmS (w W : World) (qv uv : Value) (lq lu : List Nat) : Prop where
  bl : Below w.heap.size w W
  q : LsD W qv lq
  u : LsD W uv lu
theorem DmS.below {w W W2 : World} {qv uv : Value} {lq lu : List Nat} (h : DmS w W qv uv lq lu) (hb : Below W.heap.size W W2) : DmS w W2 qv uv lq lu := ⟨below_chain h.bl hb, h.q.below hb, h.u.below hb⟩
theorem DmS.belowH {w W W2 : World} {qv uv : Value} {lq lu : List Nat} (h : Hid (DmS w W qv uv lq lu)) (hb : Below W.heap.size W W2) : Hid (DmS w W2 qv uv lq lu) := Lib.hid (h.out.below hb)
theorem RdE.below {g : Nat} {w w' : World} {A : Option Addr} {l : List Nat} (h : RdE g w A l) (hk : Below w.heap.size w w') : RdE g w' A l := fun hl =>
  let ⟨ad, e, hg, hc⟩ := h hl
  ⟨ad, e, hg, fun j hj => cell_kept hk (hc j hj)⟩
def sliN (v : Value) : Nat := match v with | .slice _ n _ => n | _ => 0
theorem toD_more {x k : Nat} (h : (toD x).length = k) : toD x ++ [0] = paD (k + 1) x := by
  have hx := (toD_length_le x k).1 (by omega)
  rw [paD_split, Nat.div_eq_of_lt hx, paD_toD h]
  congr 1
set_option maxRecDepth 100000 in
set_option maxHeartbeats 4000000 in
theorem rdivmod_walk (v1 v2 : Value) (a b : Nat) (w : World) (h1 : DgAt w v1 a) (h2 : DgAt w v2 b) (hb : b ≠ 0) (hs1 : (toD a).length ≤ 39000) (hs2 : (toD b).length ≤ 39000) :
    Calls Tryz.prog 189 #[v1, v2] w fun e w' => ∃ q r, e = .returned (.tuple #[q, r]) ∧ DgAt w' q (a / b) ∧ DgAt w' r (a % b) ∧ Below w.heap.size w w' := by
  have H1 := Lib.hid h1
  have H2 := Lib.hid h2
  have hcmp := rncmp_walk v1 v2 a b w h1 h2 (by omega)
  have hlb0 : (toD b).length ≠ 0 := fun e => hb ((toD_length_zero b).1 e)
  have HN := Lib.hid (fun W (hW : Below w.heap.size w W) => rnorm_walk v1 (toD a) W (LsD.below h1 hW) (We_toD a) (by omega))
  have HWd := Lib.hid (fun W => show Calls Tryz.prog 179 #[.int .u64 0] W fun e w' => ∃ v', e = .returned v' ∧ DgAt w' v' 0 ∧ Below W.heap.size W w' from rword_walk 0 (by decide) W)
  obtain ⟨A1, c1, rfl, hc1, hz1, hr1⟩ := id h1
  obtain ⟨A2, c2, rfl, hc2, hz2, hr2⟩ := id h2
  obtain ⟨la, hla⟩ : ∃ la, (toD a).length = la := ⟨_, rfl⟩
  obtain ⟨lb, hlb⟩ : ∃ lb, (toD b).length = lb := ⟨_, rfl⟩
  rw [hla] at H1 HN hcmp hc1 hs1 h1 ⊢
  rw [hlb] at H2 hcmp hc2 hs2 hlb0 h2 ⊢
  have hl2 : ((lb : Int) == 0) = false := by rw [beq_eq_false_iff_ne]; omega
  have hl2' : ((0 : Int) == (lb : Int)) = false := by rw [beq_eq_false_iff_ne]; omega
  have HLA := Lib.hid hla
  have HLB := Lib.hid hlb
  obtain ⟨cc, hcc⟩ : ∃ cc, cmpD a b = cc := ⟨_, rfl⟩
  rw [hcc] at hcmp
  have HCM := Lib.hid hcmp
  by_cases hlt : a < b
  · have hc0 : cc < 0 := by rw [← hcc]; exact (cmpD_neg).2 hlt
    rw [Nat.div_eq_of_lt hlt, Nat.mod_eq_of_lt hlt]
    rw [vd_toD] at HN
    clear hcmp hr1 hr2 hla hlb hlt hcc h1 h2 hz1 hz2 hc1 hc2
    go_enter Tryz.func189, Tryz.ntmps189
    go_wp2_with fail
    refine HCM.out.mono ?_
    rintro e w1 ⟨rfl, hb1⟩
    have HW1 := Lib.hid hb1
    clear hb1 HCM
    go_wp2_with fail
    refine (HWd.out _).mono ?_
    rintro e w2 ⟨v, rfl, hv, hb2⟩
    have HV := Lib.hid hv
    have HW2 := Lib.hid (below_chain HW1.out hb2)
    obtain ⟨A3, c3, rfl, hc3, hz3, hr3⟩ := hv
    clear hr3 hc3 hz3 hb2
    go_wp2_with fail
    refine (HN.out _ HW2.out).mono ?_
    rintro e w3 ⟨v4, rfl, hv4, hb3⟩
    have HV3 := Lib.hid (HV.out.below hb3)
    have HV4 := Lib.hid hv4
    obtain ⟨A4, c4, rfl, hc4, hz4, hr4⟩ := hv4
    have HW3 := Lib.hid (below_chain HW2.out hb3)
    clear hr4 hc4 hz4 hb3
    go_wp2
    go_ret2
    exact ⟨_, _, rfl, HV3.out, HV4.out, HW3.out⟩
  · have hc0 : ¬ cc < 0 := by rw [← hcc]; exact fun h => hlt ((cmpD_neg).1 h)
    by_cases h1l : lb = 1
    · have hbl : ((lb : Int) == 1) = true := by rw [beq_iff_eq]; omega
      have hbW : b < W32 := toD_small (by omega)
      have hbe : toD b = [b] := toD_one hb hbW
      rw [hbe] at hr2
      have HR2 := Lib.hid hr2
      rw [W32_num] at hbW
      have HDv := Lib.hid (fun W (hW : Below w.heap.size w W) => rdiv_walk (.slice A1 la c1) a b W (h1.below hW) (by omega) hbW (by omega))
      obtain ⟨r, hr⟩ : ∃ r, a % b = r := ⟨_, rfl⟩
      have hrl : r < 18446744073709551616 := by rw [← hr]; exact Nat.lt_trans (Nat.mod_lt _ (by omega)) (by omega)
      have k1 : IntKind.u64.wrap (r : Int) = (r : Int) := by rw [IntKind.wrap_u64]; omega
      rw [hr] at HDv ⊢
      have HWr := Lib.hid (fun W => rword_walk r hrl W)
      have hl1 : (0 : Int) < (lb : Int) := by omega
      obtain ⟨q, hq⟩ : ∃ q, a / b = q := ⟨_, rfl⟩
      rw [hq] at HDv ⊢
      clear hcmp hr1 hr2 hla hlb hlt hcc h1 h2 hz1 hz2 hc1 hc2 hbe hbW hr hrl h1l hlb0 hq
      go_enter Tryz.func189, Tryz.ntmps189
      go_wp2_with fail
      refine HCM.out.mono ?_
      rintro e w1 ⟨rfl, hb1⟩
      have HW1 := Lib.hid hb1
      have hrd : RdD w1 A2 [b] := HR2.out.below hb1
      obtain ⟨ad, rfl, hcl⟩ := hrd (by simp)
      have hc00 := hcl 0 (by simp)
      rw [show ad.add 0 = ad by simp [Addr.add], el_cons_zero] at hc00
      clear hb1 HCM hrd hcl
      go_wp2_with fail
      refine (HDv.out _ HW1.out).mono ?_
      rintro e w2 ⟨v, rfl, hv, hb2⟩
      have HV := Lib.hid hv
      have HW2 := Lib.hid (below_chain HW1.out hb2)
      obtain ⟨A3, c3, rfl, hc3, hz3, hr3⟩ := hv
      clear hr3 hc3 hz3 hb2 hc00
      go_wp2_with fail
      refine (HWr.out _).mono ?_
      rintro e w3 ⟨v4, rfl, hv4, hb3⟩
      have HV3 := Lib.hid (HV.out.below hb3)
      have HV4 := Lib.hid hv4
      obtain ⟨A4, c4, rfl, hc4, hz4, hr4⟩ := hv4
      have HW3 := Lib.hid (below_chain HW2.out hb3)
      clear hr4 hc4 hz4 hb3
      go_wp2
      go_ret2
      exact ⟨_, _, rfl, HV3.out, HV4.out, HW3.out⟩
    · have hbl : ((lb : Int) == 1) = false := by rw [beq_eq_false_iff_ne]; omega
      have HLst := Lib.hid (fun W (hW : Below w.heap.size w W) => LsD.last (LsD.below h2 hW) hlb hb)
      obtain ⟨s, hs⟩ : ∃ s, 32 - blen (el (toD b) (lb - 1)) = s := ⟨_, rfl⟩
      obtain ⟨f1, f2, f3, f4, f5, f6⟩ := shiftD_facts (a := a) (b := b) (la := la) (lb := lb) (s := s) hla hlb hb (by omega) hs.symm
      have ht := toD_top hb
      rw [hlb] at ht
      rw [ht] at hs
      obtain ⟨top, htop⟩ : ∃ top, b / W32 ^ (lb - 1) = top := ⟨_, rfl⟩
      have htl : top < W32 := by rw [← htop, ← ht]; exact eD_lt (We_toD b) _
      have htb : blen top ≤ 32 := by rw [blen_le, ← W32_eq]; exact htl
      rw [htop] at hs HLst
      have HBi := Lib.hid (fun W v (h : DgAt W v top) => rbits_walk v top W h (by rw [toD_length]; omega))
      have hs2 : (32 : Int) - ((blen top : Nat) : Int) = (s : Int) := by omega
      have hsm := Nat.two_pow_pos s
      have HSb := Lib.hid (fun W (hW : Below w.heap.size w W) => rshl_walk (.slice A2 lb c2) b (s : Int) W (h2.below hW) (by omega) (by omega) (by omega))
      have HSa := Lib.hid (fun W (hW : Below w.heap.size w W) => rshl_own (.slice A1 la c1) a (s : Int) W (h1.below hW) (by omega) (by omega) (by omega))
      simp only [Int.toNat_natCast] at HSb HSa
      obtain ⟨Uu, hUu⟩ : ∃ Uu, a * 2 ^ s = Uu := ⟨_, rfl⟩
      obtain ⟨Vv, hVv⟩ : ∃ Vv, b * 2 ^ s = Vv := ⟨_, rfl⟩
      have hdv : Uu / Vv = a / b := by rw [← hUu, ← hVv, Nat.mul_div_mul_right _ _ hsm]
      have hmd : Uu % Vv / 2 ^ s = a % b := by rw [← hUu, ← hVv, Nat.mul_mod_mul_right, Nat.mul_div_cancel _ hsm]
      rw [hVv] at f1 f2 f3 HSb
      rw [hUu] at f3 HSa
      have hV0 : 0 < Vv := Nat.lt_of_lt_of_le (Nat.pow_pos W32_pos) f2
      have hmdl : Uu % Vv < W32 ^ lb := Nat.lt_trans (Nat.mod_lt _ hV0) f1
      have hqa : Uu / Vv < W32 ^ (la + 1 - lb) := by rw [Nat.div_lt_iff_lt_mul hV0]; exact f3
      obtain ⟨m, hm⟩ : ∃ m, la + 1 = m := ⟨_, rfl⟩
      obtain ⟨d, hd⟩ : ∃ d, m - lb = d := ⟨_, rfl⟩
      rw [hm] at f3 f6 hqa
      obtain ⟨US, QS, hE, hSt⟩ := longD_steps (U := Uu) (V := Vv) hd f1 hV0 f3
      have hlV : (toD Vv).length = lb := by
        refine Nat.le_antisymm ((toD_length_le _ _).2 f1) (Nat.le_of_not_lt fun h => ?_)
        have := (toD_length_le Vv (lb - 1)).1 (by omega)
        omega
      have hlU : (toD Uu).length = la ∨ (toD Uu).length = m := by
        have h3 : Uu < W32 ^ m := by
          refine Nat.lt_of_lt_of_le f3 ?_
          calc W32 ^ (m - lb) * Vv ≤ W32 ^ (m - lb) * W32 ^ lb := Nat.mul_le_mul_left _ (Nat.le_of_lt f1)
            _ = W32 ^ m := by rw [← Nat.pow_add]; congr 1; omega
        have h4 := (toD_length_le Uu m).2 h3
        have h5 : la ≤ (toD Uu).length := by
          refine Nat.le_of_not_lt fun h => ?_
          have h6 := lenD_less (a := Uu) (b := a) (by omega)
          have := Nat.le_mul_of_pos_right a hsm
          omega
        omega
      have hUl : Uu < W32 ^ m := (toD_length_le Uu m).1 (by omega)
      have HF := Lib.hid (show Vv < W32 ^ lb ∧ W32 ^ (lb - 1) ≤ Vv ∧ 0 < Vv ∧ Uu < W32 ^ m ∧ Uu % Vv < W32 ^ lb ∧ Uu / Vv < W32 ^ d from ⟨f1, f2, hV0, hUl, hmdl, by rw [← hd]; exact hqa⟩)
      have HM := Lib.hid (show s < 32 ∧ 1 ≤ lb ∧ lb < m ∧ la + 1 = m ∧ la ≤ 39000 ∧ lb ≤ 39000 ∧ m - lb = d from ⟨f4, f5, f6, hm, hs1, by omega, hd⟩)
      have HD := Lib.hid (show Uu / Vv = a / b ∧ Uu % Vv / 2 ^ s = a % b from ⟨hdv, hmd⟩)
      have HLU := Lib.hid hlU
      have HLV := Lib.hid hlV
      have HE := Lib.hid hE
      have HSt := Lib.hid hSt
      obtain ⟨l1, hl1⟩ : ∃ l1, lb - 1 = l1 := ⟨_, rfl⟩
      rw [hl1] at HLst
      have p1 : IntKind.i64.wrap ((lb : Int) - 1) = (l1 : Int) := by rw [IntKind.wrap_i64]; omega
      have p2 : (l1 : Int) ≤ (lb : Int) := by omega
      have p3 : ¬ c2 = l1 := by omega
      have p4 : lb - l1 = 1 := by omega
      have p5 : (l1 : Int) ≤ (c2 : Int) := by omega
      have HL1 := Lib.hid hl1
      clear hcmp hr1 hr2 hla hlb hcc h1l hlt hlb0 hb ht hs htop htl htb f1 f2 f3 f4 f5 f6 hsm hUu hVv hdv hmd hV0 hmdl hqa hm hd hE hSt hlV hlU hUl hl1 h1 h2 hz1 hz2 hc1 hc2
      go_enter Tryz.func189, Tryz.ntmps189
      go_wp2_with fail
      refine HCM.out.mono ?_
      rintro e w1 ⟨rfl, hb1⟩
      have HW1 := Lib.hid hb1
      obtain ⟨ad, rfl, hlst, hck, hlc⟩ := HLst.out w1 hb1
      have HLs := Lib.hid hlst
      clear hb1 HCM hlst hlc hck
      go_wp2_with fail
      refine (HBi.out _ _ HLs.out).mono ?_
      rintro e w' ⟨rfl, hw⟩
      (have h := hw.symm); subst h
      clear hw HLs HBi HLst
      go_wp2_with fail
      refine (HSb.out _ HW1.out).mono ?_
      rintro e w2 ⟨v, rfl, hv, hb2⟩
      have HW2 := Lib.hid (below_chain HW1.out hb2)
      obtain ⟨A3, c3, rfl, hc3, hz3, hr3⟩ := hv
      have HR3 := Lib.hid hr3
      rw [HLV.out] at hc3 ⊢
      have HC3 := Lib.hid hc3
      clear hz3 hr3 hb2 hc3 HSb
      go_wp2_with fail
      refine (HSa.out _ HW2.out).mono ?_
      rintro e w3 ⟨uv, rfl, hu, hb3⟩
      have HB3 := Lib.hid hb3
      have HU := Lib.hid hu
      clear hu hb3 HSa
      have hms : la < m := by have := HM.out; omega
      go_wp2_with fail
      go_loopw [10] (fun uv wr => ∃ l : List Nat, (l = toD Uu ∨ l = paD m Uu) ∧ la ≤ l.length ∧ l.length ≤ m ∧ Hid (OwD wr w2.heap.size uv l) ∧ Hid (Below w2.heap.size w2 wr)) (fun uv _ => m - sliN uv)
      case atStart => exact ⟨toD Uu, .inl rfl, by have := HLU.out; have := HM.out; omega, by have := HLU.out; have := HM.out; omega, HU, HB3⟩
      case round =>
        obtain ⟨l, hl, hl1, hl2, HO, HBo⟩ := hrel
        have hla1 : 0 < l.length := by have := HM.out; omega
        obtain ⟨g, cu, tl, rfl, hg, hlc, hE⟩ := HO.out.blk hla1
        have hBs := HBo.out.size
        by_cases hle : l.length ≤ la
        · have hll : l.length = la := by omega
          have hlt : l = toD Uu := by
            rcases hl with h | h
            · exact h
            · rw [h, paD_length] at hll; omega
          have hnew := toD_more (x := Uu) (k := la) (by rw [← hlt]; exact hll)
          rw [HM.out.2.2.2.1] at hnew
          have HNew := Lib.hid (show l ++ [0] = paD m Uu by rw [hlt]; exact hnew)
          have hOl : l.length + 1 ≤ 1000000 := by have := HM.out; omega
          have HOl := Lib.hid hOl
          have g1 : (la : Int) ≤ (la : Int) := by omega
          rw [hll] at HO ⊢
          clear hl hlt hnew hE hl1 hl2 hle hla1 hlc hg hll hOl
          go_wp2_with (at_builtin; refine wpList_appendD rfl (.tmp 59) (.tmp 60) rfl w2.heap.size _ l rfl (HO.out.alloc _) ⟨wr.heap.size, 0, none⟩ 1 1 [0] rfl rfl (new_cell wr 0) HOl.out (by simp; omega) (fun v' w4 h1 h2 => ?_))
          have h3 := h2 w2 (HBo.out.alloc hBs _)
          rw [HNew.out] at h1
          have HO4 := Lib.hid h1
          have HB4 := Lib.hid h3
          have HLn := Lib.hid (show sliN v' = m by
            obtain ⟨A4, c4, e4, _⟩ := h1.ls
            rw [e4, paD_length]; rfl)
          clear h1 h2 h3
          go_wp2_with fail
          go_roundw
          case rel => exact ⟨paD m Uu, .inr rfl, by rw [paD_length]; have := HM.out; omega, by rw [paD_length]; exact Nat.le_refl _, HO4, HB4⟩
          case measure => rw [HLn.out]; show m - m < m - la; omega
        · have hll : l.length = m := by have := HM.out; omega
          have hlt : l = paD m Uu := by
            rcases hl with h | h
            · rw [h, paD_toD (by rw [← h]; exact hll)]
            · exact h
          rw [hlt] at hE
          have HE0 := Lib.hid hE
          have HWr := Lib.hid (below_chain HW2.out HBo.out)
          have HCu := Lib.hid (show m ≤ cu by rw [← hll]; exact hlc)
          have HGu := Lib.hid (show w2.heap.size ≤ g from hg)
          have g1 : ¬ (m : Int) ≤ (la : Int) := by have := HM.out; omega
          have hmk := make_u32 d (by have := HM.out; omega)
          have p6 : IntKind.i64.wrap ((m : Int) - (lb : Int)) = (d : Int) := by have := HM.out; rw [IntKind.wrap_i64]; omega
          have p7 : IntKind.i64.wrap ((d : Int) - 1) = (d : Int) - 1 := by have := HM.out; rw [IntKind.wrap_i64]; omega
          have HBq := Lib.hid (BlD.new wr (List.replicate d 0))
          have HKq := Lib.hid (KB.of (g := g) (below_alloc' wr (.cells (UD (List.replicate d 0)) 198)))
          have HEq := Lib.hid (hE.below (below_alloc' wr (.cells (UD (List.replicate d 0)) 198)))
          have HGq := Lib.hid (show g ≠ wr.heap.size by have := hE.lt; omega)
          have HV0 := Lib.hid (show RdE g wr A3 (paD lb Vv) by rw [paD_toD HLV.out]; exact (HR3.out.away hg).below HBo.out)
          rw [hll]
          clear hl hlt hE hl1 hl2 hle hla1 hlc hg hBs hll HE0 hms HO
          go_wp2_with fail
          obtain ⟨wq, hwq⟩ : ∃ wq, wr.alloc (.cells (UD (List.replicate d 0)) 198) = wq := ⟨_, rfl⟩
          obtain ⟨gq, hgq⟩ : ∃ gq, wr.heap.size = gq := ⟨_, rfl⟩
          have HGs := Lib.hid (show wr.heap.size ≤ gq ∧ w2.heap.size ≤ wr.heap.size from ⟨by omega, HBo.out.size⟩)
          rw [hwq, hgq] at HBq
          rw [hwq] at HKq HEq
          rw [hgq] at HGq
          rw [hwq, hgq]
          clear hwq hgq hmk p6
          have HQ0 := Lib.hid (show BlD wq gq (paD d (QS d)) by rw [HE.out.2.1, paD_zero_rep]; exact HBq.out)
          have HU0 := Lib.hid (show BlE wq g tl (paD m (US d)) by rw [HE.out.1]; exact HEq.out)
          clear HBq HEq
          go_loopg [13] d (fun jj jv wx => jj ≤ d ∧ jv = .int .i64 ((jj : Int) - 1) ∧ Hid (BlE wx g tl (paD m (US jj))) ∧ Hid (BlD wx gq (paD d (QS jj))) ∧ Hid (KB g wr wx))
          case atStart => exact ⟨Nat.le_refl _, rfl, HU0, HQ0, HKq⟩
          case round =>
            obtain ⟨hjj, hjv, HU2, HQ2, HK2⟩ := hrel
            cases gk with
            | zero =>
              subst hjv
              have hU := HU2.out
              have hQ := HQ2.out
              rw [HE.out.2.2.1] at hU
              rw [HE.out.2.2.2] at hQ
              have hBx : Below w2.heap.size w2 _ := HBo.out.trans (HK2.out.below HGu.out HGs.out.2)
              have hlu : LsD _ (.slice (some ⟨g, 0, none⟩) lb cu) (paD lb (Uu % Vv)) := ⟨_, cu, by rw [paD_length], by rw [paD_length]; have := HM.out; have := HCu.out; omega, (fun e => by cases e), by
                rw [← paD_take (show lb ≤ m by have := HM.out; omega)]
                exact fun hl => by
                  obtain ⟨ad2, e2, hc2⟩ := hU.read (by rw [paD_length]; have := HM.out; omega)
                  refine ⟨ad2, e2, fun j hj => ?_⟩
                  rw [List.length_take, paD_length] at hj
                  rw [el_take (by omega)]
                  exact hc2 j (by rw [paD_length]; omega)⟩
              have HS0 := Lib.hid (DmS.mk (w := w) (below_chain HW2.out hBx) (by have := hQ.ls d (by rw [paD_length]; exact Nat.le_refl _); rw [paD_length] at this; exact this) hlu)
              have HNq := Lib.hid (fun W (h : LsD W (.slice (some ⟨gq, 0, none⟩) d d) (paD d (Uu / Vv))) => rnorm_walk _ _ W h (We_paD _ _) (by rw [paD_length]; have := HM.out; omega))
              have HNu := Lib.hid (fun W (h : LsD W (.slice (some ⟨g, 0, none⟩) lb cu) (paD lb (Uu % Vv))) => rnorm_walk _ _ W h (We_paD _ _) (by rw [paD_length]; have := HM.out; omega))
              have HSr := Lib.hid (fun W x (h : DgAt W x (Uu % Vv)) => rshr_walk x (Uu % Vv) (s : Int) W h (by omega) (by have := HM.out; omega) (by have := (toD_length_le (Uu % Vv) lb).2 HF.out.2.2.2.2.1; have := HM.out; omega))
              simp only [vd_paD_of HF.out.2.2.2.2.2] at HNq
              simp only [vd_paD_of HF.out.2.2.2.2.1] at HNu
              simp only [Int.toNat_natCast, HD.out.2] at HSr
              rw [HD.out.1] at HNq HS0
              have g2 : ¬ (0 : Int) ≤ ((0 : Nat) : Int) - 1 := by omega
              have g3 : (lb : Int) ≤ (cu : Int) := by have := HCu.out; have := HM.out; omega
              clear hU hQ hBx hlu hjj HU2 HQ2 HK2
              go_wp2_with fail
              try rw [Exit.noGoto_ret]
              have HSd := Lib.hid (HS0.out.below (below_draw' _))
              go_region_held3 (fun w' => Hid (DmS w w' (.slice (some ⟨gq, 0, none⟩) d d) (.slice (some ⟨g, 0, none⟩) lb cu) (paD d (a / b)) (paD lb (Uu % Vv))))
                (first | exact HSd | exact DmS.belowH (by assumption) hb6 | exact DmS.belowH (by assumption) hb7 | exact DmS.belowH (by assumption) hb8 | exact (by assumption))
                (first
                  | (go_at_call_of 192 (Value.slice (some ⟨gq, 0, none⟩) d d); refine (HNq.out _ (DmS.q (Hid.out (by assumption)))).mono ?_; rintro e w6 ⟨x6, rfl, hx6, hb6⟩; have HX6 := Lib.hid hx6; clear hx6)
                  | (go_at_call_of 192 (Value.slice (some ⟨g, 0, none⟩) lb cu); refine (HNu.out _ (DmS.u (Hid.out (by assumption)))).mono ?_; rintro e w7 ⟨x7, rfl, hx7, hb7⟩; have HX7 := Lib.hid hx7; clear hx7)
                  | (go_at_call 211; refine (HSr.out _ _ (by first | exact HX7.out | exact HX7.out.below hb6)).mono ?_; rintro e w8 ⟨x8, rfl, hx8, hb8⟩; have HX8 := Lib.hid hx8; clear hx8))
              all_goals
                go_wp2_with fail
                try rw [Exit.noGoto_ret]
                have HDx : Hid (DmS w w8 (.slice (some ⟨gq, 0, none⟩) d d) (.slice (some ⟨g, 0, none⟩) lb cu) (paD d (a / b)) (paD lb (Uu % Vv))) := by assumption
                go_ret2
                exact ⟨_, _, rfl, (HX6.out.below hb7).below hb8, HX8.out, HDx.out.bl⟩
            | succ j =>
              have hj2 : u13 = .int .i64 (j : Int) := by rw [hjv]; congr 1; omega
              subst hj2
              clear hjv
              obtain ⟨R, s1, s2, s3, s4, s5⟩ := HSt.out j (by omega)
              have hM := HM.out
              obtain ⟨a1, ha1⟩ : ∃ a1, j + lb = a1 := ⟨_, rfl⟩
              obtain ⟨en, hen⟩ : ∃ en, a1 + 1 = en := ⟨_, rfl⟩
              obtain ⟨pc, hpc⟩ : ∃ pc, cu - j = pc := ⟨_, rfl⟩
              have hcu := HCu.out
              have q1 : IntKind.i64.wrap ((j : Int) + (lb : Int)) = (a1 : Int) := by rw [IntKind.wrap_i64]; omega
              have q4 : IntKind.i64.wrap ((a1 : Int) + 1) = (en : Int) := by rw [IntKind.wrap_i64]; omega
              have q5 : (j : Int) ≤ (en : Int) := by omega
              have q6 : (en : Int) ≤ (cu : Int) := by omega
              have q7 : ¬ cu = j := by omega
              have q11 : en - j = lb + 1 := by omega
              have hqd : (j : Int) < (d : Int) := by omega
              have HC := Lib.hid (show lb + 1 ≤ pc ∧ j ≤ 60000 ∧ j < d by omega)
              have hUb := HU2.out
              rw [s1] at hUb
              obtain ⟨pre, hpre⟩ : ∃ pre, paD j (US (j + 1)) = pre := ⟨_, rfl⟩
              obtain ⟨post, hpost⟩ : ∃ post, paD (m - j - (lb + 1)) 0 = post := ⟨_, rfl⟩
              have hpl : pre.length = j := by rw [← hpre, paD_length]
              rw [hpre, hpost] at hUb s2
              have HUb := Lib.hid hUb
              have HS2 := Lib.hid s2
              have HR := Lib.hid (show R < W32 ^ (lb + 1) ∧ R < W32 * Vv from ⟨s4, s5⟩)
              have HPl := Lib.hid hpl
              have hdl : R / Vv < W32 := by rw [Nat.div_lt_iff_lt_mul HF.out.2.2.1]; exact s5
              have HDg := Lib.hid (rdig_walk g j pc tl pre post A3 lb c3 Vv R _ hpl (HV0.out.kb HK2.out) hM.2.1 HF.out.1 HF.out.2.1 HC3.out hUb s4 s5 HC.out.1 (by omega) HC.out.2.1)
              obtain ⟨dg, hdg⟩ : ∃ dg, R / Vv = dg := ⟨_, rfl⟩
              rw [hdg] at s3 HDg hdl
              have HS3 := Lib.hid s3
              clear hUb s1 s2 s3 s4 s5 ha1 hen hM hpre hpost hpl HU2 hjj hdg hcu hdl
              go_wp2_with fail
              refine HDg.out.mono ?_
              rintro e w5 ⟨rfl, hz5, hk5⟩
              rw [HS2.out] at hz5
              have hQ5 : BlD w5 gq (paD d (QS (j + 1))) := HQ2.out.kb hk5 (Ne.symm HGq.out)
              have hst := hQ5.set j dg
              have c4 := hQ5.cell (j := j) (by rw [paD_length]; exact HC.out.2.2)
              have f4 := hQ5.frozen j
              rw [HS3.out] at hst
              have HSt5 := Lib.hid hst
              have HKs := Lib.hid ((HK2.out.trans hk5).over HGs.out.1 j (.int .u32 (dg : Int)))
              have HZs := Lib.hid (hz5.far (p := ⟨gq, j, none⟩) HGq.out (.int .u32 (dg : Int)))
              have e2 : IntKind.i64.wrap ((j : Int) - 1) = (j : Int) - 1 := by have := HC.out; have := HM.out; rw [IntKind.wrap_i64]; omega
              have HJ := Lib.hid (show j ≤ d by have := HC.out; omega)
              clear hz5 hk5 hQ5 hst HQ2 HK2 HUb HDg
              go_wp2_with fail
              go_roundg j
              case rel => exact ⟨HJ.out, rfl, HZs, HSt5, HKs⟩
              case measure => omega
end Go.Proofs.YtmfjimmodaofdaaGreatDoor
