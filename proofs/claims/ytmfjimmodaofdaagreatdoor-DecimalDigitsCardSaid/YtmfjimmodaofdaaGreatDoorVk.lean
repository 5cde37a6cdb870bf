/- Walk of gnomonref11: Told. -/
import Derived.Test.YtmfjimmodaofdaaGreatDoorVj
import Derived.Test.YtmfjimmodaofdaaGreatDoorQt
namespace Go.Proofs.YtmfjimmodaofdaaGreatDoor
open Go.RowKit

theorem nine_split (x : Nat) {i : Nat} (hi : i ≤ 9) : x / 10 ^ i = x / 1000000000 * 10 ^ (9 - i) + x % 1000000000 / 10 ^ i := by
  have h1 := Nat.div_add_mod x 1000000000
  have hp : 0 < 10 ^ i := Nat.pow_pos (by omega)
  have e : (1000000000 : Nat) = 10 ^ i * 10 ^ (9 - i) := by
    rw [← Nat.pow_add, show i + (9 - i) = 9 by omega]
  obtain ⟨a, ha⟩ : ∃ a, x / 1000000000 = a := ⟨_, rfl⟩
  obtain ⟨r, hr⟩ : ∃ r, x % 1000000000 = r := ⟨_, rfl⟩
  rw [ha, hr] at h1 ⊢
  rw [← h1, e, Nat.mul_assoc, Nat.mul_add_div hp, Nat.mul_comm a]
theorem digit_split (x : Nat) {i : Nat} (hi : i < 9) : x / 10 ^ i % 10 = x % 1000000000 / 10 ^ i % 10 := by
  rw [nine_split x (Nat.le_of_lt hi), show 9 - i = (8 - i) + 1 by omega, Nat.pow_succ, ← Nat.mul_assoc, Nat.mul_comm _ 10, Nat.mul_add_mod]
theorem digs_bound {d n : Nat} (h : blen d ≤ 3 * n) (hn : 1 ≤ n) : (Lib.decDigits d).length ≤ n := by
  refine decDigits_len (m := n) ?_ (by omega)
  refine Nat.lt_of_lt_of_le (blen_le.1 h) ?_
  rw [Nat.pow_mul]
  exact Nat.pow_le_pow_left (by decide) n
theorem telling_len8 {n x M : Nat} {L : List UInt8} (h : telling n x L) (hn : (Lib.decDigits n).length ≤ M) : L.length ≤ M ∧ (x ≠ 0 → L.length + 1 ≤ M) := by
  have h2 := congrArg List.length h
  by_cases hx : x = 0
  · rw [if_pos hx] at h2
    exact ⟨by omega, fun h => absurd hx h⟩
  · rw [if_neg hx, List.length_append] at h2
    have : (Lib.decDigits x).length ≠ 0 := (dcV_digits x).2.2.2
    exact ⟨by omega, fun _ => by omega⟩
def strN (v : Value) : Nat := match v with | .string s => s.size | _ => 0

set_option maxRecDepth 100000 in
set_option maxHeartbeats 2000000 in
theorem rtold_walk (v : Value) (d M : Nat) (w : World) (h : DgAt w v d) (hb : blen d ≤ 3 * M) (hM1 : 1 ≤ M) (hM : M ≤ 20000) :
    Calls Tryz.prog 151 #[v] w fun e w' => e = .returned (.string (bs (Lib.decDigits d))) ∧ Below w.heap.size w w' := by
  by_cases h0 : d = 0
  · subst h0
    obtain ⟨A, c, rfl, _, _, _⟩ := h
    rw [toD_zero, Lib.decDigits_one (by decide : 0 < 10)]
    clear hb hM hM1
    go_enter Tryz.func151, Tryz.ntmps151
    go_wp2
    go_ret
    exact ⟨by rfl, Below.refl _ _⟩
  have hcv : ∀ (x : Nat) (W : World) (b : Nat), W.cell? ⟨b, 0, none⟩ = some (.int .u8 (48 + (x : Int) % 10)) → (convert 89 9 (.slice (some ⟨b, 0, none⟩) 1 1)).run Tryz.prog W = .ok (.string (bs [dgC (x % 10)])) W := fun x W b h =>
    run_convert_bytes_back (P := Tryz.prog) W 89 9 5 ⟨b, 0, none⟩ 1 [dgC (x % 10)] Tryz.underlying89 Tryz.underlying5 Tryz.underlying9 (fun j hj => by
      have e : j = 0 := by simpa using hj
      subst e
      have e2 := dgC_val x
      simpa [Addr.add, e2] using h)
  have hlen := digs_bound hb hM1
  have HN := Lib.hid (show (Lib.decDigits d).length ≤ M ∧ M ≤ 20000 from ⟨hlen, hM⟩)
  have HDv := Lib.hid (fun x (hx : x ≤ d) v W (h : DgAt W v x) => show Calls Tryz.prog 180 #[v, .int .u32 1000000000] W fun e w' => ∃ v', e = .returned (.tuple #[v', .int .u32 ((x % 1000000000 : Nat) : Int)]) ∧ DgAt w' v' (x / 1000000000) ∧ Below W.heap.size W w' from
    rdiv_walk v x 1000000000 W h (by omega) (by omega) (by rw [toD_length]; have := blen_mono hx; omega))
  have HT0 := Lib.hid (show telling d d [] by unfold telling; rw [if_neg h0, List.append_nil])
  have HD0 := Lib.hid h
  have hl0 : ¬ (((toD d).length : Int) == 0) = true := by
    have h3 : (toD d).length ≠ 0 := fun e => h0 ((toD_length_zero d).1 e)
    rw [beq_iff_eq]; omega
  have hl0 : (((toD d).length : Int) == 0) = false := by simpa using hl0
  obtain ⟨A, c, rfl, _, _, _⟩ := h
  obtain ⟨k, hk⟩ : ∃ k, (toD d).length = k := ⟨_, rfl⟩
  rw [hk] at hl0 HD0
  rw [hk]
  clear hlen hb hM hM1 h0 hk
  go_enter Tryz.func151, Tryz.ntmps151
  go_wp2_with fail
  clear hl0
  go_loopw [0, 3] (fun xv sv wr => ∃ (x : Nat) (L : List UInt8), sv = .string (bs L) ∧ Hid (DgAt wr xv x) ∧ Hid (x ≤ d) ∧ Hid (telling d x L) ∧ Hid (Below w.heap.size w wr)) (fun _ sv _ => M - strN sv)
  case atStart => exact ⟨d, [], rfl, HD0, Lib.hid (Nat.le_refl _), HT0, Lib.hid (Below.refl _ _)⟩
  case round =>
    obtain ⟨x, L, rfl, HX, HXd, HT, HW⟩ := hrel
    obtain ⟨A1, c1, rfl, _, _, _⟩ := id HX.out
    obtain ⟨k1, hk1⟩ : ∃ k1, (toD x).length = k1 := ⟨_, rfl⟩
    have hz := toD_length_zero x
    rw [hk1] at HX hz
    rw [hk1]
    have hL := telling_len8 HT.out HN.out.1
    by_cases h0 : x = 0
    · have HE := Lib.hid (show L = Lib.decDigits d by have := HT.out; unfold telling at this; rwa [if_pos h0] at this)
      have g1 : ¬ (0 : Int) < (k1 : Int) := by have := hz.2 h0; omega
      clear h0 hz hk1 hL hcv
      go_wp2
      go_ret
      exact ⟨by rw [HE.out]; rfl, HW.out⟩
    · have g1 : (0 : Int) < (k1 : Int) := by have : k1 ≠ 0 := fun e => h0 (hz.1 e); omega
      have HL := Lib.hid hL
      have HX0 := Lib.hid h0
      clear h0 hz hk1 hL
      go_wp2_with fail
      refine (HDv.out x HXd.out _ _ HX.out).mono ?_
      rintro r w1 ⟨q, rfl, hq, hb1⟩
      have HQ := Lib.hid hq
      have HW1 := Lib.hid (below_chain HW.out hb1)
      obtain ⟨Aq, cq, rfl, _, _, _⟩ := id hq
      obtain ⟨nq, hnq⟩ : ∃ nq, (toD (x / 1000000000)).length = nq := ⟨_, rfl⟩
      have hzq := toD_length_zero (x / 1000000000)
      rw [hnq] at HQ hzq
      rw [hnq]
      have HZq := Lib.hid hzq
      clear hq hb1 hnq hzq g1
      go_wp2_with fail
      go_loopw [5, 6, 7] (fun rv pv iv wr2 => ∃ (i y : Nat) (P : List UInt8), i ≤ 9 ∧ rv = .int .u32 (y : Int) ∧ Hid (x % 1000000000 / 10 ^ i = y) ∧ pv = .string (bs P) ∧ iv = .int .i64 (i : Int) ∧ Hid (P.length = i) ∧ Hid (telling d (x / 10 ^ i) (P ++ L)) ∧ Hid (DgAt wr2 (.slice Aq nq cq) (x / 1000000000)) ∧ Hid (Below w.heap.size w wr2)) (fun _ _ iv _ => 9 - (intOf iv).toNat)
      case atStart => exact ⟨0, x % 1000000000, [], by omega, rfl, Lib.hid (by simp), rfl, rfl, Lib.hid rfl, Lib.hid (by simpa using HT.out), HQ, HW1⟩
      case round =>
        obtain ⟨i, y, P, hi, rfl, HY, rfl, rfl, HPl, HTi, HQi, HWi⟩ := hrel
        have hsp := nine_split x hi
        have hLb := telling_len8 HTi.out HN.out.1
        have hy := HY.out
        have hyb : y < 1000000000 := by rw [← hy]; exact Nat.lt_of_le_of_lt (Nat.div_le_self _ _) (Nat.mod_lt _ (by omega))
        have hcase : (x / 10 ^ i ≠ 0 ∧ i < 9 ∧ (0 < nq ∨ (¬ 0 < nq ∧ 0 < y))) ∨ ((i = 9 ∧ x / 10 ^ i = x / 1000000000) ∨ (i < 9 ∧ ¬ 0 < nq ∧ ¬ 0 < y ∧ x / 10 ^ i = x / 1000000000)) := by
          rw [hy] at hsp
          by_cases h9 : i = 9
          · right; left; refine ⟨h9, by rw [h9]⟩
          · by_cases hq0 : 0 < nq
            · left
              refine ⟨?_, by omega, .inl hq0⟩
              have hq1 : x / 1000000000 ≠ 0 := fun e => by have := HZq.out.2 e; omega
              have hp : 0 < 10 ^ (9 - i) := Nat.pow_pos (by omega)
              have := Nat.mul_pos (Nat.pos_of_ne_zero hq1) hp
              omega
            · have hq1 : x / 1000000000 = 0 := HZq.out.1 (by omega)
              rw [hq1, Nat.zero_mul, Nat.zero_add] at hsp
              by_cases hy0 : 0 < y
              · left; exact ⟨by omega, by omega, .inr ⟨hq0, hy0⟩⟩
              · right; right; exact ⟨by omega, hq0, hy0, by omega⟩
        rcases hcase with ⟨hx0, hi9, hc⟩ | hc
        · have hdg := digit_split x hi9
          rw [hy] at hdg
          have htn := telling_next HTi.out hx0
          rw [hdg, Nat.div_div_eq_div_mul, ← Nat.pow_succ, ← List.append_assoc] at htn
          have HTn := Lib.hid htn
          have HYn := Lib.hid (show x % 1000000000 / 10 ^ (i + 1) = y / 10 by rw [Nat.pow_succ, ← Nat.div_div_eq_div_mul, hy])
          have hl1 : (bs P).size = i := by rw [bs_size]; exact HPl.out
          have hl2 : (bs [dgC (y % 10)]).size = 1 := by rw [bs_size]; rfl
          have HA := Lib.hid (show bs [dgC (y % 10)] ++ bs P = bs ([dgC (y % 10)] ++ P) from bs_append _ _)
          have HWn := Lib.hid (below_alloc' wr (.cells #[.int .u8 (48 + (y : Int) % 10)] 5))
          have c0 := hcv y
          have g1 : (i : Int) < 9 := by omega
          have kw : IntKind.i64.wrap ((i : Int) + 1) = ((i + 1 : Nat) : Int) := by rw [IntKind.wrap_i64]; omega
          have kq : IntKind.u32.wrap ((y : Int) / 10) = (y : Int) / 10 := by rw [IntKind.wrap_u32]; omega
          have HI := Lib.hid (show i < 9 from hi9)
          have HPl2 := Lib.hid (show ([dgC (y % 10)] ++ P).length = i + 1 by rw [List.length_append, HPl.out]; simp; omega)
          have hc2 : (0 : Int) < (nq : Int) ∨ (nq = 0 ∧ (0 : Int) < (y : Int)) := by
            rcases hc with h | ⟨h, h'⟩
            · left; omega
            · right; omega
          clear hx0 hi9 hc hdg htn hsp hLb hcv hi hyb hy HY
          obtain ⟨C, hC⟩ : ∃ C, bs [dgC (y % 10)] = C := ⟨_, rfl⟩
          rw [hC] at c0 hl2 HA
          clear hC
          rcases hc2 with g2 | ⟨rfl, g3⟩
          all_goals
            go_wp2_with fail
            go_roundw
            case rel => exact ⟨i + 1, y / 10, _, by have := HI.out; omega, by simp, HYn, congrArg Value.string HA.out, rfl, HPl2, HTn, Lib.hid (HQi.out.below HWn.out), Lib.hid (below_chain HWi.out HWn.out)⟩
            case measure => have := HI.out; simp [intOf]; omega
        · have hxe : x / 10 ^ i = x / 1000000000 := by rcases hc with h | h; exact h.2; exact h.2.2.2
          have htf := HTi.out
          rw [hxe] at htf
          have HTf := Lib.hid htf
          have hPl : 1 ≤ P.length := by
            rw [HPl.out]
            rcases hc with h | h
            · omega
            · refine Nat.one_le_iff_ne_zero.2 fun e => HX0.out ?_
              have h1 := h.2.2.2
              have h2 := HZq.out.1 (by omega)
              rw [e, Nat.pow_zero, Nat.div_one, h2] at h1
              exact h1
          have HXd2 := Lib.hid (Nat.le_trans (Nat.div_le_self x 1000000000) HXd.out)
          have hl1 : (bs P).size ≤ 20000 := by rw [bs_size]; have := HN.out; rw [List.length_append] at hLb; omega
          have hl2 : (bs L).size ≤ 20000 := by rw [bs_size]; have := HN.out; rw [List.length_append] at hLb; omega
          have HA := Lib.hid (show bs P ++ bs L = bs (P ++ L) from bs_append _ _)
          have HMs := Lib.hid (show L.length < (P ++ L).length ∧ (P ++ L).length ≤ M from ⟨by rw [List.length_append]; omega, hLb.1⟩)
          have hc2 : ¬ (i : Int) < 9 ∨ ((i : Int) < 9 ∧ nq = 0 ∧ ¬ (0 : Int) < (y : Int)) := by
            rcases hc with h | h
            · left; omega
            · right; omega
          clear hc hxe htf hPl hLb hy hyb hsp hi hcv
          rcases hc2 with g1 | ⟨g1, rfl, g3⟩
          all_goals
            go_wp2_with fail
            go_roundw
            case rel => exact ⟨_, _, congrArg Value.string HA.out, HQi, HXd2, HTf, HWi⟩
            case measure =>
              have := HMs.out
              show M - (bs P ++ bs L).size < M - (bs L).size
              rw [HA.out, bs_size, bs_size]; omega
end Go.Proofs.YtmfjimmodaofdaaGreatDoor
